/-
  Texts of this proof, laid together: S65, S66.
-/
import Derived.Test.YtnonnencdhogiaaM9
/-
  Layer 14's law StoreLoads: both Loads.
-/
namespace Go.Proofs.Ytnonnencdhogiaa
open Go.RowKit

/-- what a Load takes, and its error -/
def loadS (xs : List KV) : List KV × Int := xs.foldl (fun p x => if p.2 ≠ 0 then p else if codeR p.1 x.1 x.2 = 0 then (p.1 ++ [x], 0) else (p.1, codeR p.1 x.1 x.2)) ([], 0)
theorem loadS_take {xs : List KV} {i : Nat} {x : KV} (h : xs[i]? = some x) (hp : loadS (xs.take i) = (xs.take i, 0)) : loadS (xs.take (i + 1)) = if codeR (xs.take i) x.1 x.2 = 0 then (xs.take (i + 1), 0) else (xs.take i, codeR (xs.take i) x.1 x.2) := by
  have e : xs.take (i + 1) = xs.take i ++ [x] := by rw [List.take_add_one, h]; rfl
  rw [e]
  unfold loadS at hp ⊢
  rw [List.foldl_append, hp]
  simp
theorem load_fold : ∀ (l : List KV) (p : List KV × Int), p.2 ≠ 0 → l.foldl (fun p x => if p.2 ≠ 0 then p else if codeR p.1 x.1 x.2 = 0 then (p.1 ++ [x], 0) else (p.1, codeR p.1 x.1 x.2)) p = p
  | [], _, _ => rfl
  | x :: l, p, h => by
    rw [List.foldl_cons, if_pos h]
    exact load_fold l p h
theorem loadS_stop {xs : List KV} {i : Nat} (h : (loadS (xs.take i)).2 ≠ 0) : loadS xs = loadS (xs.take i) := by
  have e : xs = xs.take i ++ xs.drop i := (List.take_append_drop i xs).symm
  have h2 : loadS xs = loadS (xs.take i ++ xs.drop i) := by rw [← e]
  rw [h2]
  unfold loadS at h ⊢
  rw [List.foldl_append]
  exact load_fold _ _ h

def LoadPost (xs : List KV) (w : World) (e : Ending) (w' : World) : Prop :=
  Only NoneOf w w' ∧ (((loadS xs).2 ≠ 0 ∧ e = .returned (.tuple #[.pointer none, .int .i64 (loadS xs).2])) ∨
    ((loadS xs).2 = 0 ∧ ∃ s T, e = .returned (.tuple #[.pointer (some ⟨s, 0, none⟩), .int .i64 0]) ∧ StoR w' s T NoneOf xs xs.length ∧ ∀ k, T k → w.heap.size ≤ k))

set_option maxRecDepth 100000 in
set_option maxHeartbeats 4000000 in
theorem load_any (w : World) (A : Option Addr) (cap : Nat) (xs : List KV) (hA : VersAt w A xs) (hfew : xs.length ≤ 2513169434843) :
    Calls Try.prog 36 #[.slice A xs.length cap] w (LoadPost xs w) := by
  have HA := Lib.hid hA
  obtain ⟨n, hn⟩ : ∃ n, xs.length = n := ⟨_, rfl⟩
  have HN := Lib.hid hn
  have HNW := Lib.hid (newR w NoneOf (fun _ h => h.elim))
  rw [hn] at hfew ⊢
  clear hA hn
  go_enter Try.func36, Try.ntmps36
  go_wp2_with fail
  refine HNW.out.mono ?_; rintro e w1 ⟨rfl, T1, h1, ho1, ht1⟩
  have H1 := Lib.hid h1
  have HO1 := Lib.hid ho1
  have HT1 := Lib.hid ht1
  clear h1 ho1 ht1
  go_wp2_with fail
  go_loopw [11] (fun v wr => ∃ (i : Nat) (T : Nat → Prop), v = .int .i64 i ∧ i ≤ n ∧ StoR wr (w.heap.size + 1) T NoneOf (xs.take i) i ∧ Only NoneOf w wr ∧ (∀ k, T k → w.heap.size ≤ k) ∧ loadS (xs.take i) = (xs.take i, 0)) (fun v _ => n - (intOf v).toNat)
  case atStart => exact ⟨0, T1, rfl, by omega, H1.out, HO1.out, HT1.out, rfl⟩
  case round =>
    obtain ⟨i, T, rfl, hi, h, hO, hT, hld⟩ := hrel
    have HO := Lib.hid hO
    have HS := Lib.hid h
    have HT := Lib.hid hT
    have HLD := Lib.hid hld
    clear hO h hT hld
    by_cases hlt : i < n
    · have hx : xs[i]? = some (xs[i]'(by rw [HN.out]; exact hlt)) := List.getElem?_eq_getElem _
      generalize xs[i]'(by rw [HN.out]; exact hlt) = x at hx
      obtain ⟨g, off, Ab, cb, rfl, hg, d0, d1, d2, d3, hby, hks⟩ := (HA.out.keep HO.out) i x hx
      have HTS := Lib.hid (loadS_take hx HLD.out)
      have HTK := Lib.hid (show xs.take (i + 1) = xs.take i ++ [x] by rw [List.take_add_one, hx]; rfl)
      obtain ⟨key, st, bs, dead⟩ := x
      simp only at d0 d1 d2 d3 hby hks
      obtain ⟨nn, hnn⟩ : ∃ nn, bs.length = nn := ⟨_, rfl⟩
      rw [hnn] at d2
      have HAP := applyR _ _ _ _ _ _ (HS.out.keep ((Only.refl NoneOf wr).alloc (.cells (verC key st (.slice Ab nn cb) dead) 27))) (by unfold NMAX; omega) key st Ab nn cb dead bs hnn (hby.keep ((Only.refl _ _).alloc _))
      obtain ⟨cd, hcd⟩ : ∃ cd, codeR (xs.take i) key ⟨st, bs, dead⟩ = cd := ⟨_, rfl⟩
      rw [hcd] at HAP
      have hts := HTS.out
      simp only [hcd] at hts
      have HTS2 := Lib.hid hts
      have HCD := Lib.hid hcd
      replace HAP := Lib.hid HAP
      have HOA := Lib.hid (HO.out.alloc (.cells (verC key st (.slice Ab nn cb) dead) 27))
      have hwr := HO.out.size
      clear hby hx hts hcd HTS
      go_wp2_with fail
      refine HAP.out.mono ?_; rintro e w2 ⟨rfl, T2, h2, ho2, ht2⟩
      have H2 := Lib.hid h2
      have HO2 := Lib.hid (HOA.out.step ho2 (fun k hk hh => by have := HT.out k hh; omega))
      have HT2 := Lib.hid (show ∀ k, T2 k → w.heap.size ≤ k from fun k hk => by
        rcases ht2 k hk with h | h
        · exact HT.out k h
        · simp at h; omega)
      clear h2 ho2 ht2
      by_cases hz : cd = 0
      · have HH2 := Lib.hid (show StoR w2 (w.heap.size + 1) T2 NoneOf (xs.take (i + 1)) (i + 1) by
          have := H2.out
          unfold afterR at this
          rw [HCD.out, if_pos hz, ← HTK.out] at this
          exact this)
        have HTS3 := Lib.hid (show loadS (xs.take (i + 1)) = (xs.take (i + 1), 0) by rw [HTS2.out, if_pos hz])
        subst hz
        go_wp2_with fail
        exact ⟨⟨i + 1, T2, by rw [show ((i + 1 : Nat) : Int) = (i : Int) + 1 by omega], by omega, HH2.out, HO2.out, HT2.out, HTS3.out⟩, by simp [intOf]; omega⟩
      · have hzb : (cd == 0) = false := beq_eq_false_iff_ne.2 hz
        have HTS3 := Lib.hid (show loadS xs = (xs.take i, cd) by
          have e2 : loadS (xs.take (i + 1)) = (xs.take i, cd) := by rw [HTS2.out, if_neg hz]
          rw [loadS_stop (i := i + 1) (by rw [e2]; exact hz), e2])
        have HZ := Lib.hid hz
        clear hz
        go_wp2_with fail
        go_ret2
        exact ⟨HO2.out, .inl ⟨by rw [HTS3.out]; exact HZ.out, by rw [HTS3.out]; rfl⟩⟩
    · obtain rfl : i = n := by omega
      have e1 : xs.take i = xs := by rw [← HN.out, List.take_length]
      have H3 := HS.out
      rw [e1] at H3
      have HS3 := Lib.hid H3
      have HL3 := Lib.hid (show (loadS xs).2 = 0 by have := HLD.out; rw [e1] at this; rw [this])
      clear H3 e1
      go_wp2_with fail
      go_ret2
      exact ⟨HO.out, .inr ⟨HL3.out, _, T, rfl, by rw [HN.out]; exact HS3.out, HT.out⟩⟩

def LoadRef (xs : List KV) (w : World) (e : Ending) (w' : World) : Prop :=
  Only NoneOf w w' ∧ (((loadS xs).2 ≠ 0 ∧ e = .returned (.tuple #[.slice none 0 0, .int .i64 (loadS xs).2])) ∨
    ((loadS xs).2 = 0 ∧ ∃ A cap rs, e = .returned (.tuple #[.slice A rs.length cap, .int .i64 0]) ∧ RGood rs xs ∧ RAt w' A rs))

set_option maxRecDepth 100000 in
set_option maxHeartbeats 4000000 in
theorem Load_ref (w : World) (A : Option Addr) (cap : Nat) (xs : List KV) (hA : VersAt w A xs) (hfew : xs.length ≤ 2513169434843) :
    Calls Try.prog 40 #[.slice A xs.length cap] w (LoadRef xs w) := by
  have HA := Lib.hid hA
  have HO0 := Lib.hid ((Only.refl NoneOf w).alloc (.cells #[] 27))
  obtain ⟨n, hn⟩ : ∃ n, xs.length = n := ⟨_, rfl⟩
  have HN := Lib.hid hn
  rw [hn] at hfew ⊢
  clear hA hn
  go_enter Try.func40, Try.ntmps40
  go_wp2_with fail
  go_loopw [4, 12] (fun v vi wr => ∃ (i : Nat) (A' : Option Addr) (cap' : Nat) (rs : List VRow), vi = .int .i64 i ∧ i ≤ n ∧ v = .slice A' rs.length cap' ∧ RGood rs (xs.take i) ∧ RAt wr A' rs ∧ Only NoneOf w wr ∧ loadS (xs.take i) = (xs.take i, 0)) (fun _ vi _ => n - (intOf vi).toNat)
  case atStart => exact ⟨0, some ⟨w.heap.size, 0, none⟩, 0, [], rfl, by omega, rfl, ⟨rfl, GoodR.nil⟩, fun i r hr => by simp at hr, HO0.out, rfl⟩
  case round =>
    obtain ⟨i, A1, cap1, rs, rfl, hi, rfl, hg, hra, hO, hld⟩ := hrel
    have HO := Lib.hid hO
    have HG := Lib.hid hg
    have HRA := Lib.hid hra
    have HLD := Lib.hid hld
    have hrn : rs.length = i := by rw [hg.len, List.length_take, HN.out]; omega
    have HRN := Lib.hid hrn
    clear hO hg hra hld
    by_cases hlt : i < n
    · have hx : xs[i]? = some (xs[i]'(by rw [HN.out]; exact hlt)) := List.getElem?_eq_getElem _
      generalize xs[i]'(by rw [HN.out]; exact hlt) = x at hx
      obtain ⟨g, off, Ab, cb, rfl, hg, d0, d1, d2, d3, hby, hks⟩ := (HA.out.keep HO.out) i x hx
      have HTS := Lib.hid (loadS_take hx HLD.out)
      have HTK := Lib.hid (show xs.take (i + 1) = xs.take i ++ [x] by rw [List.take_add_one, hx]; rfl)
      obtain ⟨key, st, bs, dead⟩ := x
      simp only at d0 d1 d2 d3 hby hks
      obtain ⟨nn, hnn⟩ : ∃ nn, bs.length = nn := ⟨_, rfl⟩
      rw [hnn] at d2
      have HAP := Apply_ref (wr.alloc (.cells (verC key st (.slice Ab nn cb) dead) 27)) A1 cap1 rs (xs.take i) HG.out (HRA.out.keep ((Only.refl _ _).alloc _)) (by omega) key st bs dead Ab nn cb hnn (hby.keep ((Only.refl _ _).alloc _))
      have HAF := Lib.hid (HG.out.good.after key ⟨st, bs, dead⟩)
      obtain ⟨cd, hcd⟩ : ∃ cd, codeR (xs.take i) key ⟨st, bs, dead⟩ = cd := ⟨_, rfl⟩
      unfold ApRef at HAP
      rw [hcd, hrn] at HAP
      have hts := HTS.out
      simp only [hcd] at hts
      have HTS2 := Lib.hid hts
      have HCD := Lib.hid hcd
      have HKS := Lib.hid hks
      replace HAP := Lib.hid HAP
      have HOA := Lib.hid (HO.out.alloc (.cells (verC key st (.slice Ab nn cb) dead) 27))
      have hwr := HO.out.size
      rw [hrn]
      clear hby hx hts hcd HTS hrn hks
      go_wp2_with fail
      refine HAP.out.mono ?_; rintro e w2 ⟨ho2, hcase⟩
      have HO2 := Lib.hid (HOA.out.trans ho2)
      have HRA2 := Lib.hid ((HRA.out.keep ((Only.refl NoneOf wr).alloc (.cells (verC key st (.slice Ab nn cb) dead) 27))).keep ho2)
      clear ho2
      rcases hcase with ⟨hz, rfl⟩ | ⟨hz, vq, r, rfl, hrp, hrb, hown⟩
      · have hzb : (cd == 0) = false := beq_eq_false_iff_ne.2 hz
        have HTS3 := Lib.hid (show loadS xs = (xs.take i, cd) by
          have e2 : loadS (xs.take (i + 1)) = (xs.take i, cd) := by rw [HTS2.out, if_neg hz]
          rw [loadS_stop (i := i + 1) (by rw [e2]; exact hz), e2])
        have HZ := Lib.hid hz
        clear hz
        go_wp2_with fail
        go_ret2
        exact ⟨HO2.out, .inl ⟨by rw [HTS3.out]; exact HZ.out, by rw [HTS3.out]; rfl⟩⟩
      · subst hz
        have HTS3 := Lib.hid (show loadS (xs.take (i + 1)) = (xs.take (i + 1), 0) by rw [HTS2.out, if_pos rfl])
        have hown' : w2.ownsRow (wr.alloc (.cells (verC key st (.slice Ab nn cb) dead) 27)).heap.size 27 4 vq (rs ++ [r]).length (vflat (rs ++ [r])) := by rw [List.length_append, HRN.out]; exact hown
        obtain ⟨A2, c2, hv2, hra2⟩ := rat_own hown' (fun q hq => by
          rcases List.mem_append.1 hq with hq | hq
          · exact rat_val HRA2.out hq
          · obtain rfl : q = r := by simpa using hq
            have e1 : q.key = key := congrArg (·.1) hrp
            have e2 : q.bs = bs := congrArg (fun p : KV => p.2.bs) hrp
            obtain ⟨Ac, cc, hv, hb⟩ := hrb.at
            exact ⟨Ac, cc, by rw [hv, e2], by rw [e2]; exact hb, by rw [e1]; exact HKS.out⟩)
        subst hv2
        have HR2 := Lib.hid hra2
        have HG2 := Lib.hid (show RGood (rs ++ [r]) (xs.take (i + 1)) by
          refine ⟨by rw [List.map_append, HG.out.eq, HTK.out]; simp [hrp], ?_⟩
          have := HAF.out
          unfold afterR at this
          rw [HCD.out, if_pos rfl] at this
          rw [HTK.out]
          exact this)
        have HL2 := Lib.hid (show (rs ++ [r]).length = i + 1 by rw [List.length_append, HRN.out]; rfl)
        rw [HL2.out]
        clear hown hown' hra2 hrp hrb
        go_wp2_with fail
        exact ⟨⟨i + 1, A2, c2, rs ++ [r], by rw [show ((i + 1 : Nat) : Int) = (i : Int) + 1 by omega], by omega, by rw [HL2.out], HG2.out, HR2.out, HO2.out, HTS3.out⟩, by simp [intOf]; omega⟩
    · obtain rfl : i = n := by omega
      have e1 : xs.take i = xs := by rw [← HN.out, List.take_length]
      have H3 := HG.out
      rw [e1] at H3
      have HG3 := Lib.hid H3
      have HL3 := Lib.hid (show (loadS xs).2 = 0 by have := HLD.out; rw [e1] at this; rw [this])
      clear H3 e1 hrn
      go_wp2_with fail
      go_ret2
      exact ⟨HO.out, .inr ⟨HL3.out, A1, cap1, rs, rfl, HG3.out, HRA.out⟩⟩

end Go.Proofs.Ytnonnencdhogiaa

/-
  Layer 14's law StoreLoads walked.
-/
namespace Go.Proofs.Ytnonnencdhogiaa
open Go.RowKit

/-- in a round -/
def DoRelN (w : World) (s nv n : Nat) (v3 vi : Value) (wr : World) : Prop :=
  ∃ (i : Nat) (A : Option Addr) (cap : Nat) (rs : List VRow) (R : List KV) (T : Nat → Prop), vi = .int .i64 i ∧ i ≤ n ∧ v3 = .slice A rs.length cap ∧ RGood rs R ∧ StoR wr s T NoneOf R (nv + i) ∧ (∀ w', Only T wr w' → RAt w' A rs) ∧ Only NoneOf w wr ∧ ∀ k, T k → w.heap.size ≤ k

set_option maxRecDepth 100000 in
set_option maxHeartbeats 8000000 in
theorem loads_walk (A0 : Option Addr) (cap0 : Nat) (vs : List KV) (A : Option Addr) (cap : Nat) (xs : List Stp) (w : World) (hV : VersAt w A0 vs) (hX : StepsAt w A xs) (hfew : vs.length + xs.length ≤ 2513169434843) : Calls Try.prog 14 #[.slice A0 vs.length cap0, .slice A xs.length cap] w (Ans (.bool true) w) := by
  have HFX := fun u => Lib.hid (fixed_is u)
  have HX := Lib.hid hX
  have HLR := Lib.hid (Load_ref w A0 cap0 vs hV (by omega))
  have HLA := fun (u : World) (hu : Only NoneOf w u) => Lib.hid (load_any u A0 cap0 vs (hV.keep hu) (by omega))
  obtain ⟨n, hn⟩ : ∃ n, xs.length = n := ⟨_, rfl⟩
  have HN := Lib.hid hn
  obtain ⟨nv, hnv⟩ : ∃ nv, vs.length = nv := ⟨_, rfl⟩
  have HNV := Lib.hid hnv
  rw [hn, hnv] at hfew
  rw [hn, hnv]
  simp only [hnv] at HLR HLA
  clear hX hV hn hnv
  go_enter Try.func14, Try.ntmps14
  go_wp2_with fail
  refine HLR.out.mono ?_; rintro e w1 ⟨ho1, hc1⟩
  have HO1 := Lib.hid ho1
  have HLA1 := HLA w1 ho1
  clear ho1 HLR HLA
  rcases hc1 with ⟨hz, rfl⟩ | ⟨hz, A1, cap1, rs, rfl, hg1, hr1⟩
  · have HZ := Lib.hid hz
    obtain ⟨cd, hcd⟩ : ∃ cd, (loadS vs).2 = cd := ⟨_, rfl⟩
    have hzb : (cd == 0) = false := beq_eq_false_iff_ne.2 (by rw [← hcd]; exact hz)
    have HCD := Lib.hid hcd
    rw [hcd]
    clear hz hcd
    go_wp2_with fail
    refine HLA1.out.mono ?_; rintro e w2 ⟨ho2, hc2⟩
    have HO2 := Lib.hid (HO1.out.trans ho2)
    rcases hc2 with ⟨_, rfl⟩ | ⟨hz2, _⟩
    · rw [HCD.out]
      clear ho2 HLA1
      go_wp2_with fail
      refine (HFX w2).out.mono ?_; rintro e w3 ⟨rfl, ho3⟩
      have HO3 := Lib.hid (HO2.out.trans ho3)
      clear ho3
      go_wp2_with fail
      go_ret
      exact ⟨rfl, HO3.out⟩
    · exact absurd hz2 HZ.out
  · have HZ := Lib.hid hz
    have HG1 := Lib.hid hg1
    have HR1 := Lib.hid hr1
    obtain ⟨nr1, hnr1⟩ : ∃ nr1, rs.length = nr1 := ⟨_, rfl⟩
    have HNR1 := Lib.hid hnr1
    rw [hnr1]
    clear hz hg1 hr1 hnr1
    go_wp2_with fail
    refine HLA1.out.mono ?_; rintro e w2 ⟨ho2, hc2⟩
    rcases hc2 with ⟨hz2, _⟩ | ⟨_, s, T1, rfl, hs2, ht2⟩
    · exact absurd HZ.out hz2
    · have HO2 := Lib.hid (HO1.out.trans ho2)
      have HS2 := Lib.hid hs2
      have HT2 := Lib.hid ht2
      have HO12 := Lib.hid ho2
      clear ho2 HLA1 hs2 ht2
      go_wp2_with fail
      refine (HFX w2).out.mono ?_; rintro e w3 ⟨rfl, ho3⟩
      have hz1 := HO1.out.size
      have HR0 := Lib.hid (show DoRelN w s nv n (.slice A1 nr1 cap1) (.int .i64 0) w3 from ⟨0, A1, cap1, rs, vs, T1, rfl, by omega, by rw [HNR1.out], HG1.out, by have := HS2.out.keep ho3; rw [HNV.out] at this; exact this,
        fun w' ho => HR1.out.keep (((HO12.out.trans ho3).mono (S' := T1) fun _ _ h => h.elim).step ho (fun _ _ h => h) |>.mono fun k hk h => absurd (HT2.out k h) (by omega)), HO2.out.trans ho3, fun k hk => by have := HT2.out k hk; omega⟩)
      clear ho3 HS2 HO2 HT2 HO12 HO1 HR1 HG1
      go_wp2_with fail
      go_loopw [5, 41] (fun v3 vi wr => DoRelN w s nv n v3 vi wr) (fun _ vi _ => n - (intOf vi).toNat)
      case atStart => exact HR0.out
      case round =>
        clear HR0
        obtain ⟨i, A1, cap1, rs, R, T, rfl, hi, rfl, hg, hst, hra, hO, hTl⟩ := hrel
        have HG := Lib.hid hg
        have HS := Lib.hid hst
        have HRA := Lib.hid hra
        have HO := Lib.hid hO
        have HTL := Lib.hid hTl
        have hrn : rs.length ≤ nv + i := by rw [hg.len]; exact hst.len
        clear hg hst hra hO hTl
        by_cases hlt : i < n
        · have hx : xs[i]? = some (xs[i]'(by rw [HN.out]; exact hlt)) := List.getElem?_eq_getElem _
          generalize xs[i]'(by rw [HN.out]; exact hlt) = x at hx
          obtain ⟨g, off, Ab, cb, rfl, hg, d0, d1, d2, d3, d4, d5, hby, hks⟩ := (HX.out.keep HO.out) i x hx
          have HWA := Lib.hid ((Only.refl NoneOf wr).alloc (.cells (stepC x.kind x.key x.st (.slice Ab x.bs.length cb) x.dead x.tt) 29))
          have HWN := Lib.hid (want_is (wr.alloc (.cells (stepC x.kind x.key x.st (.slice Ab x.bs.length cb) x.dead x.tt) 29)) T A1 cap1 rs R x Ab cb (fun k hk => Nat.lt_of_lt_of_le (HS.out.lt hk) HWA.out.size) HG.out
            (fun w' ho => HRA.out w' ((HWA.out.mono fun _ _ h => h.elim).step ho (fun _ _ h => h))) (by omega) hks (hby.keep HWA.out))
          have HBY := Lib.hid hby
          have HB6 := Lib.hid (Blk.new wr 29 (stepC x.kind x.key x.st (.slice Ab x.bs.length cb) x.dead x.tt))
          obtain ⟨nr, hnr⟩ : ∃ nr, rs.length = nr := ⟨_, rfl⟩
          rw [hnr] at HWN ⊢
          clear hx hby hnr
          go_wp2_with fail
          refine HWN.out.mono ?_; rintro e wb ⟨cs, A2, cap2, rs2, rfl, hg2, hob, htl⟩
          obtain ⟨E1, n1, c1, E2, n2, c2, E3, n3, c3, hcs⟩ := (htl wb (Only.refl _ _)).1.cells
          have HG2 := Lib.hid hg2
          have HTD := Lib.hid htl
          obtain ⟨te, hte⟩ : ∃ te, (ansR R x).e = te := ⟨_, rfl⟩
          obtain ⟨tn, htn⟩ : ∃ tn, (ansR R x).n = tn := ⟨_, rfl⟩
          obtain ⟨tm, htm⟩ : ∃ tm, (ansR R x).m = tm := ⟨_, rfl⟩
          obtain ⟨ti, hti⟩ : ∃ ti, (ansR R x).is = ti := ⟨_, rfl⟩
          rw [hte, htn, htm, hti] at hcs
          subst hcs
          have HOB := Lib.hid (HWA.out.trans hob)
          have HB6b := Lib.hid (HB6.out.only hob (fun h => h))
          clear hte htn htm hti hg2 htl hob HWN
          have HTW := Lib.hid (show ∀ k, T k → k < wr.heap.size from fun k hk => HS.out.lt hk)
          have hbw := HOB.out.size
          have HG0 := Lib.hid (show DoG (wb.alloc (.cells (tellC te tn tm ti (.slice E1 n1 c1) (.slice E2 n2 c2) (.slice E3 n3 c3)) 33)) s (nv + i) T R x wr.heap.size wb.heap.size (stepC x.kind x.key x.st (.slice Ab x.bs.length cb) x.dead x.tt) (tellC te tn tm ti (.slice E1 n1 c1) (.slice E2 n2 c2) (.slice E3 n3 c3)) 0 (wb.alloc (.cells (tellC te tn tm ti (.slice E1 n1 c1) (.slice E2 n2 c2) (.slice E3 n3 c3)) 33)) from
            ⟨HS.out.keep (HOB.out.alloc _), Only.refl _ _, HB6b.out.alloc _, Blk.new _ _ _⟩)
          have HOC := Lib.hid (HOB.out.alloc (.cells (tellC te tn tm ti (.slice E1 n1 c1) (.slice E2 n2 c2) (.slice E3 n3 c3)) 33))
          have HTE := Lib.hid (fun w'' (ho : Only T (wb.alloc (.cells (tellC te tn tm ti (.slice E1 n1 c1) (.slice E2 n2 c2) (.slice E3 n3 c3)) 33)) w'') => HTD.out w'' ((((Only.refl NoneOf wb).alloc (.cells (tellC te tn tm ti (.slice E1 n1 c1) (.slice E2 n2 c2) (.slice E3 n3 c3)) 33)).mono (S' := T) fun _ _ h => h.elim).step ho (fun _ _ h => h)))
          have HFIT := Lib.hid (ansR_fit HS.out (by unfold NMAX; omega) x)
          have hb6 : ¬ T wr.heap.size := fun h => by have := HTW.out _ h; omega
          have hb7 : ¬ T wb.heap.size := fun h => by have := HTW.out _ h; omega
          have hlo : ∀ k, T k → k < wr.heap.size := HTW.out
          have hN : nv + i < NMAX := by unfold NMAX; omega
          have HBC := Lib.hid (HBY.out.keep HOC.out)
          go_upto_region 11 with (fail)
          refine wp_region_head2 6 64 [] (fun _ => none) (fun i => match i with | 2 => some 0 | _ => none) T (DoG (wb.alloc (.cells (tellC te tn tm ti (.slice E1 n1 c1) (.slice E2 n2 c2) (.slice E3 n3 c3)) 33)) s (nv + i) T R x wr.heap.size wb.heap.size (stepC x.kind x.key x.st (.slice Ab x.bs.length cb) x.dead x.tt) (tellC te tn tm ti (.slice E1 n1 c1) (.slice E2 n2 c2) (.slice E3 n3 c3))) (DoT x Ab cb s wr.heap.size R (tellC te tn tm ti (.slice E1 n1 c1) (.slice E2 n2 c2) (.slice E3 n3 c3))) rfl (by kernel_rfl) (by kernel_rfl) ?hskip ?hgv (DoT_keep x Ab cb s wr.heap.size R (tellC te tn tm ti (.slice E1 n1 c1) (.slice E2 n2 c2) (.slice E3 n3 c3)) hlo) (HG0.out.keep (Only.refl _ _).drew) ?hstep ?hend
          case hskip =>
            intro i o hi ho hw k
            have : i = 0 ∨ i = 1 ∨ i = 2 ∨ i = 3 ∨ i = 4 ∨ i = 5 := by omega
            rcases this with rfl | rfl | rfl | rfl | rfl | rfl
            · rfl
            · rfl
            · obtain rfl := Option.some.inj (ho : some _ = some o); exact absurd (show true = false from hw) (by decide)
            · rfl
            · rfl
            · rfl
          case hgv =>
            intro g hg v w h
            cases hg
          case hstep =>
            intro i o hi ho a u k hk hik hs ht
            have e10 : a.tmps.getD 10 undef = .pointer (some ⟨wr.heap.size, 0, none⟩) := hs 10 (of_decide_eq_true (by kernel_rfl))
            have e11 : a.tmps.getD 11 undef = .pointer (some ⟨wb.heap.size, 0, none⟩) := hs 11 (of_decide_eq_true (by kernel_rfl))
            have e7 : a.tmps.getD 7 undef = .pointer (some ⟨s, 0, none⟩) := hs 7 (of_decide_eq_true (by kernel_rfl))
            have : i = 0 ∨ i = 1 ∨ i = 2 ∨ i = 3 ∨ i = 4 ∨ i = 5 := by omega
            rcases this with rfl | rfl | rfl | rfl | rfl | rfl
            · obtain rfl := Option.some.inj (ho : some _ = some o)
              rw [if_pos (by decide)]
              exact left2_value (.pointer (some ⟨s, 0, none⟩)) (by simp [go_sem, e7]) rfl rfl hk
            · obtain rfl := Option.some.inj (ho : some _ = some o)
              rw [if_pos (by decide)]
              exact left2_load 29 (.tmp 10) wr.heap.size 29 _ _ rfl e10 hk.blk6 Try.underlying29 rfl info29 rfl rfl hk
            · obtain rfl := Option.some.inj (ho : some _ = some o)
              rw [if_pos (by decide)]
              have s0 : a.tmps.getD 51 undef = .pointer (some ⟨s, 0, none⟩) := ht 0 (by omega) (by kernel_rfl)
              have s0c : a.tmps.getD 51 undef = .pointer (some ⟨s, 0, none⟩) := ht 0 (by omega) (by kernel_rfl)
              have s1c : a.tmps.getD 52 undef = .agg (stepC x.kind x.key x.st (.slice Ab x.bs.length cb) x.dead x.tt) := ht 1 (by omega) (by kernel_rfl)
              obtain rfl : k = 0 := by
                rcases hik with h | h
                · cases h
                · injection h with h; exact h.symm
              refine left2_turns 17 #[.pointer (some ⟨s, 0, none⟩), .agg (stepC x.kind x.key x.st (.slice Ab x.bs.length cb) x.dead x.tt)] (by simp [go_sem, s0c, s1c]) ?_ rfl
              obtain ⟨h1, h2, h3, h4⟩ := hk
              refine (call_is u s (nv + i) T NoneOf R h1 hN x Ab cb hks (HBC.out.keep h2)).mono ?_
              rintro e w' ⟨cs2, T', rfl, hst, hs, ho, hkk⟩
              have hsz := h2.size
              have hcz := HOC.out.size
              exact ⟨_, rfl, ⟨cs2, rfl, hst.low (by omega)⟩, ⟨T', hs, (h2.mono fun _ _ h => h.elim).step ho (fun _ _ h => h), fun k hk' => (hkk k hk').imp id (fun h => by omega), h3.only ho hb6, h4.only ho hb7⟩, ho⟩
            · obtain rfl := Option.some.inj (ho : some _ = some o)
              rw [if_pos (by decide)]
              exact left2_load 33 (.tmp 11) wb.heap.size 33 _ _ rfl e11 hk.blk7 Try.underlying33 rfl info33 rfl rfl hk
            · obtain rfl := Option.some.inj (ho : some _ = some o)
              rw [if_pos (by decide)]
              obtain ⟨cs2, s2c, h2⟩ : TellV wr.heap.size (ansR R x) (a.tmps.getD 53 undef) u := ht 2 (by omega) (by kernel_rfl)
              have s3c : a.tmps.getD 54 undef = .agg (tellC te tn tm ti (.slice E1 n1 c1) (.slice E2 n2 c2) (.slice E3 n3 c3)) := ht 3 (by omega) (by kernel_rfl)
              have hal := alike_same u cs2 (tellC te tn tm ti (.slice E1 n1 c1) (.slice E2 n2 c2) (.slice E3 n3 c3)) (ansR R x) HFIT.out h2.at (HTE.out u hk.turned).1
              exact left2_calls 16 #[.agg cs2, .agg (tellC te tn tm ti (.slice E1 n1 c1) (.slice E2 n2 c2) (.slice E3 n3 c3))] (by simp [go_sem, s2c, s3c]) (hal.mono (fun e w' ⟨he, ho⟩ => ⟨_, he, rfl, ho⟩)) rfl (fun w' ho => hk.keep ho)
            · obtain rfl := Option.some.inj (ho : some _ = some o)
              rw [if_pos (by decide)]
              have s4 : a.tmps.getD 55 undef = .bool true := ht 4 (by omega) (by kernel_rfl)
              exact left2_value (.bool false) (by simp [go_sem, s4]) rfl rfl hk
          case hend =>
            intro V' u k hk hkt hV'
            have v0 : V' 0 = .pointer (some ⟨s, 0, none⟩) := hV' 0 (by omega)
            have v1 : V' 1 = .agg (stepC x.kind x.key x.st (.slice Ab x.bs.length cb) x.dead x.tt) := hV' 1 (by omega)
            obtain ⟨cs2, v2, h2⟩ : TellV wr.heap.size (ansR R x) (V' 2) u := hV' 2 (by omega)
            have v3 : V' 3 = .agg (tellC te tn tm ti (.slice E1 n1 c1) (.slice E2 n2 c2) (.slice E3 n3 c3)) := hV' 3 (by omega)
            have v4 : V' 4 = .bool true := hV' 4 (by omega)
            have v5 : V' 5 = .bool false := hV' 5 (by omega)
            have hk0 : 0 < k := hkt 2 0 (by omega) rfl
            change wpList _ _ _ _ (Act.put (Act.put (Act.put (Act.put (Act.put (Act.put _ (some 51) (V' 0)) (some 52) (V' 1)) (some 53) (V' 2)) (some 54) (V' 3)) (some 55) (V' 4)) (some 56) (V' 5)) _
            rw [v0, v1, v2, v3, v4, v5]
            simp only [Act.put, List.setIfInBounds_toArray, List.set_cons_zero, List.set_cons_succ]
            simp only [List.drop_succ_cons, List.drop_zero]
            clear hV' v0 v1 v2 v3 v4 v5
            obtain ⟨T', hs9, ho9, ht9⟩ := hk.end hk0
            have HWE := Lib.hid (show DoRelN w s nv n (.slice A2 rs2.length cap2) (.int .i64 ((i : Int) + 1)) u from by
              refine ⟨i + 1, A2, cap2, rs2, stepR R x, T', by rw [show ((i + 1 : Nat) : Int) = (i : Int) + 1 by omega], by omega, rfl, HG2.out, by rw [← Nat.add_assoc]; exact hs9, fun w' ho => (HTE.out w' (ho9.step ho fun k hk ht => ?_)).2, (HO.out.trans HOC.out).step ho9 (fun k hk ht => by have := HTL.out k ht; omega), fun k hk => ?_⟩
              · rcases ht9 k ht with h | h
                · exact h
                · omega
              · rcases ht9 k hk with h | h
                · exact HTL.out k h
                · have := (HO.out.trans HOC.out).size
                  omega)
            clear hk hkt h2 hs9 ho9 ht9 hk0 hlo hb6 hb7 d0 d1 d2 d3 d4 d5
            go_wp2_with fail
            exact ⟨HWE.out, by simp [intOf]; omega⟩
        · obtain rfl : i = n := by omega
          have HVS := Lib.hid (versionsR wr s (nv + i) T NoneOf R HS.out (by unfold NMAX; omega))
          have HVR := fun (u : World) (hu : Only NoneOf wr u) => Lib.hid (Versions_ref u A1 cap1 rs R HG.out (HRA.out u (hu.mono fun _ _ h => h.elim)) (by omega))
          have hlen := HS.out.len
          have HFIT : Hid (∀ x ∈ versR R, x.2.bs.length ≤ 4611686018427387904) := Lib.hid fun x hx => by
            have := HG.out.good.bs x (versR_mem hx)
            omega
          obtain ⟨nr, hnr⟩ : ∃ nr, rs.length = nr := ⟨_, rfl⟩
          simp only [hnr] at HVR ⊢
          clear hlt hnr
          go_wp2_with fail
          refine HVS.out.mono ?_; rintro e w5 ⟨v5, rs5, rfl, hr5, hpl5, ho5⟩
          have HO5 := Lib.hid ho5
          have HL5 := Lib.hid (show ListAt 4 VerE w5 v5 (versR R) by rw [← hpl5]; exact listAt_vers hr5)
          have HVR5 := HVR w5 ho5
          clear hr5 hpl5 ho5 HVS HVR
          go_wp2_with fail
          refine HVR5.out.mono ?_; rintro e w6 ⟨v6, qs, rfl, hown, hsub, hplq, ho6⟩
          have HO6 := Lib.hid (HO5.out.trans ho6)
          have HVA := versions_alike w6 v5 v6 (versR R) (versR R) (HL5.out.keep (fun x cs => VerE.keep ho6 x cs) ho6) (by rw [← hplq]; exact list_rows hown (fun r hr => rat_val (HRA.out w6 ((HO5.out.trans ho6).mono fun _ _ h => h.elim)) (hsub r hr))) (by rw [versR_length]; omega) HFIT.out
          rw [decide_eq_true rfl] at HVA
          replace HVA := Lib.hid HVA
          clear hown hsub hplq ho6 HVR5
          go_wp2_with fail
          refine HVA.out.mono ?_; rintro e w7 ⟨rfl, hw7⟩
          have HO7 := Lib.hid ((HO.out.trans HO6.out).trans (drewN_only hw7))
          clear hw7 HVA
          go_wp2_with fail
          go_ret
          exact ⟨rfl, HO7.out⟩

end Go.Proofs.Ytnonnencdhogiaa

