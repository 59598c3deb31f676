/-
  Texts of this proof, laid together: S65, S69, S70, Head3.
-/
import Derived.Test.YtnonnencdhogiaaM9
import Derived.Test.YtnonnencdhogiaaM5
/-
  Layer 14's law StoreLoads: both Loads.
-/
namespace Go.Proofs.Ytnonnencdhogiaa
open Go.RowKit

/-- what a Load takes, and its error -/
def loadS (xs : List KV) : List KV × Int := xs.foldl (fun p x => if p.2 ≠ 0 then p else if codeR p.1 x.1 x.2 = 0 then (p.1 ++ [x], 0) else (p.1, codeR p.1 x.1 x.2)) ([], 0)
theorem loadS_take {xs : List KV} {i : Nat} {x : KV} (h : xs[i]? = some x) (hp : loadS (xs.take i) = (xs.take i, 0)) : loadS (xs.take (i + 1)) = if codeR (xs.take i) x.1 x.2 = 0 then (xs.take (i + 1), 0) else (xs.take i, codeR (xs.take i) x.1 x.2) := by
  have e : xs.take (i + 1) = xs.take i ++ [x] := by rw [List.take_add_one, h]; rfl
  rw [e]
  unfold loadS at hp ⊢
  rw [List.foldl_append, hp]
  simp
theorem load_fold : ∀ (l : List KV) (p : List KV × Int), p.2 ≠ 0 → l.foldl (fun p x => if p.2 ≠ 0 then p else if codeR p.1 x.1 x.2 = 0 then (p.1 ++ [x], 0) else (p.1, codeR p.1 x.1 x.2)) p = p
  | [], _, _ => rfl
  | x :: l, p, h => by
    rw [List.foldl_cons, if_pos h]
    exact load_fold l p h
theorem loadS_stop {xs : List KV} {i : Nat} (h : (loadS (xs.take i)).2 ≠ 0) : loadS xs = loadS (xs.take i) := by
  have e : xs = xs.take i ++ xs.drop i := (List.take_append_drop i xs).symm
  have h2 : loadS xs = loadS (xs.take i ++ xs.drop i) := by rw [← e]
  rw [h2]
  unfold loadS at h ⊢
  rw [List.foldl_append]
  exact load_fold _ _ h

def LoadPost (xs : List KV) (w : World) (e : Ending) (w' : World) : Prop :=
  Only NoneOf w w' ∧ (((loadS xs).2 ≠ 0 ∧ e = .returned (.tuple #[.pointer none, .int .i64 (loadS xs).2])) ∨
    ((loadS xs).2 = 0 ∧ ∃ s T, e = .returned (.tuple #[.pointer (some ⟨s, 0, none⟩), .int .i64 0]) ∧ StoR w' s T NoneOf xs xs.length ∧ ∀ k, T k → w.heap.size ≤ k))

set_option maxRecDepth 100000 in
set_option maxHeartbeats 4000000 in
theorem load_any (w : World) (A : Option Addr) (cap : Nat) (xs : List KV) (hA : VersAt w A xs) (hfew : xs.length ≤ 2513169434843) :
    Calls Try.prog 36 #[.slice A xs.length cap] w (LoadPost xs w) := by
  have HA := Lib.hid hA
  obtain ⟨n, hn⟩ : ∃ n, xs.length = n := ⟨_, rfl⟩
  have HN := Lib.hid hn
  have HNW := Lib.hid (newR w NoneOf (fun _ h => h.elim))
  rw [hn] at hfew ⊢
  clear hA hn
  go_enter Try.func36, Try.ntmps36
  go_wp2_with fail
  refine HNW.out.mono ?_; rintro e w1 ⟨rfl, T1, h1, ho1, ht1⟩
  have H1 := Lib.hid h1
  have HO1 := Lib.hid ho1
  have HT1 := Lib.hid ht1
  clear h1 ho1 ht1
  go_wp2_with fail
  go_loopw [11] (fun v wr => ∃ (i : Nat) (T : Nat → Prop), v = .int .i64 i ∧ i ≤ n ∧ StoR wr (w.heap.size + 1) T NoneOf (xs.take i) i ∧ Only NoneOf w wr ∧ (∀ k, T k → w.heap.size ≤ k) ∧ loadS (xs.take i) = (xs.take i, 0)) (fun v _ => n - (intOf v).toNat)
  case atStart => exact ⟨0, T1, rfl, by omega, H1.out, HO1.out, HT1.out, rfl⟩
  case round =>
    obtain ⟨i, T, rfl, hi, h, hO, hT, hld⟩ := hrel
    have HO := Lib.hid hO
    have HS := Lib.hid h
    have HT := Lib.hid hT
    have HLD := Lib.hid hld
    clear hO h hT hld
    by_cases hlt : i < n
    · have hx : xs[i]? = some (xs[i]'(by rw [HN.out]; exact hlt)) := List.getElem?_eq_getElem _
      generalize xs[i]'(by rw [HN.out]; exact hlt) = x at hx
      obtain ⟨g, off, Ab, cb, rfl, hg, d0, d1, d2, d3, hby, hks⟩ := (HA.out.keep HO.out) i x hx
      have HTS := Lib.hid (loadS_take hx HLD.out)
      have HTK := Lib.hid (show xs.take (i + 1) = xs.take i ++ [x] by rw [List.take_add_one, hx]; rfl)
      obtain ⟨key, st, bs, dead⟩ := x
      simp only at d0 d1 d2 d3 hby hks
      obtain ⟨nn, hnn⟩ : ∃ nn, bs.length = nn := ⟨_, rfl⟩
      rw [hnn] at d2
      have HAP := applyR _ _ _ _ _ _ (HS.out.keep ((Only.refl NoneOf wr).alloc (.cells (verC key st (.slice Ab nn cb) dead) 27))) (by unfold NMAX; omega) key st Ab nn cb dead bs hnn (hby.keep ((Only.refl _ _).alloc _))
      obtain ⟨cd, hcd⟩ : ∃ cd, codeR (xs.take i) key ⟨st, bs, dead⟩ = cd := ⟨_, rfl⟩
      rw [hcd] at HAP
      have hts := HTS.out
      simp only [hcd] at hts
      have HTS2 := Lib.hid hts
      have HCD := Lib.hid hcd
      replace HAP := Lib.hid HAP
      have HOA := Lib.hid (HO.out.alloc (.cells (verC key st (.slice Ab nn cb) dead) 27))
      have hwr := HO.out.size
      clear hby hx hts hcd HTS
      go_wp2_with fail
      refine HAP.out.mono ?_; rintro e w2 ⟨rfl, T2, h2, ho2, ht2⟩
      have H2 := Lib.hid h2
      have HO2 := Lib.hid (HOA.out.step ho2 (fun k hk hh => by have := HT.out k hh; omega))
      have HT2 := Lib.hid (show ∀ k, T2 k → w.heap.size ≤ k from fun k hk => by
        rcases ht2 k hk with h | h
        · exact HT.out k h
        · simp at h; omega)
      clear h2 ho2 ht2
      by_cases hz : cd = 0
      · have HH2 := Lib.hid (show StoR w2 (w.heap.size + 1) T2 NoneOf (xs.take (i + 1)) (i + 1) by
          have := H2.out
          unfold afterR at this
          rw [HCD.out, if_pos hz, ← HTK.out] at this
          exact this)
        have HTS3 := Lib.hid (show loadS (xs.take (i + 1)) = (xs.take (i + 1), 0) by rw [HTS2.out, if_pos hz])
        subst hz
        go_wp2_with fail
        exact ⟨⟨i + 1, T2, by rw [show ((i + 1 : Nat) : Int) = (i : Int) + 1 by omega], by omega, HH2.out, HO2.out, HT2.out, HTS3.out⟩, by simp [intOf]; omega⟩
      · have hzb : (cd == 0) = false := beq_eq_false_iff_ne.2 hz
        have HTS3 := Lib.hid (show loadS xs = (xs.take i, cd) by
          have e2 : loadS (xs.take (i + 1)) = (xs.take i, cd) := by rw [HTS2.out, if_neg hz]
          rw [loadS_stop (i := i + 1) (by rw [e2]; exact hz), e2])
        have HZ := Lib.hid hz
        clear hz
        go_wp2_with fail
        go_ret2
        exact ⟨HO2.out, .inl ⟨by rw [HTS3.out]; exact HZ.out, by rw [HTS3.out]; rfl⟩⟩
    · obtain rfl : i = n := by omega
      have e1 : xs.take i = xs := by rw [← HN.out, List.take_length]
      have H3 := HS.out
      rw [e1] at H3
      have HS3 := Lib.hid H3
      have HL3 := Lib.hid (show (loadS xs).2 = 0 by have := HLD.out; rw [e1] at this; rw [this])
      clear H3 e1
      go_wp2_with fail
      go_ret2
      exact ⟨HO.out, .inr ⟨HL3.out, _, T, rfl, by rw [HN.out]; exact HS3.out, HT.out⟩⟩

def LoadRef (xs : List KV) (w : World) (e : Ending) (w' : World) : Prop :=
  Only NoneOf w w' ∧ (((loadS xs).2 ≠ 0 ∧ e = .returned (.tuple #[.slice none 0 0, .int .i64 (loadS xs).2])) ∨
    ((loadS xs).2 = 0 ∧ ∃ A cap rs, e = .returned (.tuple #[.slice A rs.length cap, .int .i64 0]) ∧ RGood rs xs ∧ RAt w' A rs))

set_option maxRecDepth 100000 in
set_option maxHeartbeats 4000000 in
theorem Load_ref (w : World) (A : Option Addr) (cap : Nat) (xs : List KV) (hA : VersAt w A xs) (hfew : xs.length ≤ 2513169434843) :
    Calls Try.prog 40 #[.slice A xs.length cap] w (LoadRef xs w) := by
  have HA := Lib.hid hA
  have HO0 := Lib.hid ((Only.refl NoneOf w).alloc (.cells #[] 27))
  obtain ⟨n, hn⟩ : ∃ n, xs.length = n := ⟨_, rfl⟩
  have HN := Lib.hid hn
  rw [hn] at hfew ⊢
  clear hA hn
  go_enter Try.func40, Try.ntmps40
  go_wp2_with fail
  go_loopw [4, 12] (fun v vi wr => ∃ (i : Nat) (A' : Option Addr) (cap' : Nat) (rs : List VRow), vi = .int .i64 i ∧ i ≤ n ∧ v = .slice A' rs.length cap' ∧ RGood rs (xs.take i) ∧ RAt wr A' rs ∧ Only NoneOf w wr ∧ loadS (xs.take i) = (xs.take i, 0)) (fun _ vi _ => n - (intOf vi).toNat)
  case atStart => exact ⟨0, some ⟨w.heap.size, 0, none⟩, 0, [], rfl, by omega, rfl, ⟨rfl, GoodR.nil⟩, fun i r hr => by simp at hr, HO0.out, rfl⟩
  case round =>
    obtain ⟨i, A1, cap1, rs, rfl, hi, rfl, hg, hra, hO, hld⟩ := hrel
    have HO := Lib.hid hO
    have HG := Lib.hid hg
    have HRA := Lib.hid hra
    have HLD := Lib.hid hld
    have hrn : rs.length = i := by rw [hg.len, List.length_take, HN.out]; omega
    have HRN := Lib.hid hrn
    clear hO hg hra hld
    by_cases hlt : i < n
    · have hx : xs[i]? = some (xs[i]'(by rw [HN.out]; exact hlt)) := List.getElem?_eq_getElem _
      generalize xs[i]'(by rw [HN.out]; exact hlt) = x at hx
      obtain ⟨g, off, Ab, cb, rfl, hg, d0, d1, d2, d3, hby, hks⟩ := (HA.out.keep HO.out) i x hx
      have HTS := Lib.hid (loadS_take hx HLD.out)
      have HTK := Lib.hid (show xs.take (i + 1) = xs.take i ++ [x] by rw [List.take_add_one, hx]; rfl)
      obtain ⟨key, st, bs, dead⟩ := x
      simp only at d0 d1 d2 d3 hby hks
      obtain ⟨nn, hnn⟩ : ∃ nn, bs.length = nn := ⟨_, rfl⟩
      rw [hnn] at d2
      have HAP := Apply_ref (wr.alloc (.cells (verC key st (.slice Ab nn cb) dead) 27)) A1 cap1 rs (xs.take i) HG.out (HRA.out.keep ((Only.refl _ _).alloc _)) (by omega) key st bs dead Ab nn cb hnn (hby.keep ((Only.refl _ _).alloc _))
      have HAF := Lib.hid (HG.out.good.after key ⟨st, bs, dead⟩)
      obtain ⟨cd, hcd⟩ : ∃ cd, codeR (xs.take i) key ⟨st, bs, dead⟩ = cd := ⟨_, rfl⟩
      unfold ApRef at HAP
      rw [hcd, hrn] at HAP
      have hts := HTS.out
      simp only [hcd] at hts
      have HTS2 := Lib.hid hts
      have HCD := Lib.hid hcd
      have HKS := Lib.hid hks
      replace HAP := Lib.hid HAP
      have HOA := Lib.hid (HO.out.alloc (.cells (verC key st (.slice Ab nn cb) dead) 27))
      have hwr := HO.out.size
      rw [hrn]
      clear hby hx hts hcd HTS hrn hks
      go_wp2_with fail
      refine HAP.out.mono ?_; rintro e w2 ⟨ho2, hcase⟩
      have HO2 := Lib.hid (HOA.out.trans ho2)
      have HRA2 := Lib.hid ((HRA.out.keep ((Only.refl NoneOf wr).alloc (.cells (verC key st (.slice Ab nn cb) dead) 27))).keep ho2)
      clear ho2
      rcases hcase with ⟨hz, rfl⟩ | ⟨hz, vq, r, rfl, hrp, hrb, hown⟩
      · have hzb : (cd == 0) = false := beq_eq_false_iff_ne.2 hz
        have HTS3 := Lib.hid (show loadS xs = (xs.take i, cd) by
          have e2 : loadS (xs.take (i + 1)) = (xs.take i, cd) := by rw [HTS2.out, if_neg hz]
          rw [loadS_stop (i := i + 1) (by rw [e2]; exact hz), e2])
        have HZ := Lib.hid hz
        clear hz
        go_wp2_with fail
        go_ret2
        exact ⟨HO2.out, .inl ⟨by rw [HTS3.out]; exact HZ.out, by rw [HTS3.out]; rfl⟩⟩
      · subst hz
        have HTS3 := Lib.hid (show loadS (xs.take (i + 1)) = (xs.take (i + 1), 0) by rw [HTS2.out, if_pos rfl])
        have hown' : w2.ownsRow (wr.alloc (.cells (verC key st (.slice Ab nn cb) dead) 27)).heap.size 27 4 vq (rs ++ [r]).length (vflat (rs ++ [r])) := by rw [List.length_append, HRN.out]; exact hown
        obtain ⟨A2, c2, hv2, hra2⟩ := rat_own hown' (fun q hq => by
          rcases List.mem_append.1 hq with hq | hq
          · exact rat_val HRA2.out hq
          · obtain rfl : q = r := by simpa using hq
            have e1 : q.key = key := congrArg (·.1) hrp
            have e2 : q.bs = bs := congrArg (fun p : KV => p.2.bs) hrp
            obtain ⟨Ac, cc, hv, hb⟩ := hrb.at
            exact ⟨Ac, cc, by rw [hv, e2], by rw [e2]; exact hb, by rw [e1]; exact HKS.out⟩)
        subst hv2
        have HR2 := Lib.hid hra2
        have HG2 := Lib.hid (show RGood (rs ++ [r]) (xs.take (i + 1)) by
          refine ⟨by rw [List.map_append, HG.out.eq, HTK.out]; simp [hrp], ?_⟩
          have := HAF.out
          unfold afterR at this
          rw [HCD.out, if_pos rfl] at this
          rw [HTK.out]
          exact this)
        have HL2 := Lib.hid (show (rs ++ [r]).length = i + 1 by rw [List.length_append, HRN.out]; rfl)
        rw [HL2.out]
        clear hown hown' hra2 hrp hrb
        go_wp2_with fail
        exact ⟨⟨i + 1, A2, c2, rs ++ [r], by rw [show ((i + 1 : Nat) : Int) = (i : Int) + 1 by omega], by omega, by rw [HL2.out], HG2.out, HR2.out, HO2.out, HTS3.out⟩, by simp [intOf]; omega⟩
    · obtain rfl : i = n := by omega
      have e1 : xs.take i = xs := by rw [← HN.out, List.take_length]
      have H3 := HG.out
      rw [e1] at H3
      have HG3 := Lib.hid H3
      have HL3 := Lib.hid (show (loadS xs).2 = 0 by have := HLD.out; rw [e1] at this; rw [this])
      clear H3 e1 hrn
      go_wp2_with fail
      go_ret2
      exact ⟨HO.out, .inr ⟨HL3.out, A1, cap1, rs, rfl, HG3.out, HRA.out⟩⟩

end Go.Proofs.Ytnonnencdhogiaa

/-
  The reference of layer 14: Want once more: what it holds stays where told things are written besides.
-/
namespace Go.Proofs.Ytnonnencdhogiaa
open Go.RowKit

/-- what may turn: the blocks T, and told things -/
def T33 (T : Nat → Prop) (w : World) (k : Nat) : Prop := T k ∨ ∃ cs, Blk w k 33 cs
def WantP33 (T : Nat → Prop) (R : List KV) (x : Stp) (w : World) (e : Ending) (w' : World) : Prop :=
  ∃ cs A' cap' rs', e = .returned (.tuple #[.agg cs, .slice A' rs'.length cap']) ∧ RGood rs' (stepR R x) ∧ Only NoneOf w w' ∧ ∀ w'', Only (T33 T w') w' w'' → TAt w'' cs (ansR R x) ∧ RAt w'' A' rs'
theorem blk_back {w w' : World} {S : Nat → Prop} (ho : Only S w w') {k : Nat} (hk : k < w.heap.size) (hs : ¬ S k) {t : TypeId} {cs : Array Value} (h : Blk w' k t cs) : Blk w k t cs := by
  have : w'.heap[k]? = some (.cells cs t (0, 0)) := h
  rw [ho.block k hk hs] at this
  exact this
theorem t33_back {T : Nat → Prop} {w w' w'' : World} (h : Only NoneOf w w') (ho : Only (T33 T w') w' w'') : Only (T33 T w) w w'' :=
  (h.mono fun _ _ h => h.elim).step ho fun _ hk hh => hh.imp id fun ⟨cs, hb⟩ => ⟨cs, blk_back h hk (fun h => h) hb⟩
theorem t33_own {T : Nat → Prop} {w : World} {B sz n : Nat} {t : TypeId} {v : Value} {xs : List Value} (h : w.ownsRow B t sz v n xs) (ht : t ≠ 33) (hn : ∀ g, v.ownBlock = some g → ¬ T g) : ∀ g, v.ownBlock = some g → ¬ T33 T w g := by
  rintro g hg (hh | ⟨cs, hb⟩)
  · exact hn g hg hh
  · rcases h.2 with ⟨rfl, _⟩ | ⟨g', cap, cur, rfl, _, hb', _⟩
    · cases hg
    · have : g' = g := by simpa [Value.ownBlock] using hg
      subst this
      have h1 : w.heap[g']? = some (.cells cs 33 (0, 0)) := hb
      rw [hb'] at h1
      injection h1 with h1
      injection h1 with _ h1 _
      exact ht h1
theorem t33_prows {T : Nat → Prop} {w : World} {base : Nat} {v : Value} {rs : List PRow} (h : PRows w base v rs) (hn : ∀ k, PBlocks v rs k → ¬ T k) : ∀ k, PBlocks v rs k → ¬ T33 T w k := fun k hk => by
  rcases hk with hk | ⟨r, hr, hk⟩
  · exact t33_own h.own (by decide) (fun g hg => hn g (.inl hg)) k hk
  · exact t33_own (h.vals r hr) (by decide) (fun g hg => hn g (.inr ⟨r, hr, hg⟩)) k hk

set_option maxRecDepth 100000 in
set_option maxHeartbeats 8000000 in
theorem want33_5 (w : World) (T : Nat → Prop) (A : Option Addr) (cap : Nat) (rs : List VRow) (R : List KV) (x : Stp) (Av : Option Addr) (cc : Nat) (hT : ∀ k, T k → k < w.heap.size) (hR : RGood rs R) (hA : ∀ w', Only (T33 T w) w w' → RAt w' A rs) (hfew : rs.length < 2513169434843)
    (hk : x.kind = 5) (hkey : x.key.size ≤ maxLen) (hby : BytesAt w Av x.bs) :
    Calls Try.prog 32 #[.slice A rs.length cap, .agg (stepC x.kind x.key x.st (.slice Av x.bs.length cc) x.dead x.tt)] w (WantP33 T R x w) := by
  obtain ⟨kind, key, st, bs, dead, tt⟩ := x
  simp only at hk hkey hby ⊢
  subst hk
  obtain ⟨nn, hnn⟩ : ∃ nn, bs.length = nn := ⟨_, rfl⟩
  rw [hnn]
  have hO : Only NoneOf w (((w.alloc (.cells (stepC 5 key st (.slice Av nn cc) dead tt) 29)).alloc (.cells (tellC 0 0 0 false (.slice none 0 0) (.slice none 0 0) (.slice none 0 0)) 33)).alloc (.cells (tellC 0 0 0 false (.slice none 0 0) (.slice none 0 0) (.slice none 0 0)) 33)) := (((Only.refl _ _).alloc _).alloc _).alloc _
  have hB3 := ((Blk.new w 29 (stepC 5 key st (.slice Av nn cc) dead tt)).alloc (.cells (tellC 0 0 0 false (.slice none 0 0) (.slice none 0 0) (.slice none 0 0)) 33)).alloc (.cells (tellC 0 0 0 false (.slice none 0 0) (.slice none 0 0) (.slice none 0 0)) 33)
  have hB4 := (Blk.new' (w.alloc (.cells (stepC 5 key st (.slice Av nn cc) dead tt) 29)) 33 (tellC 0 0 0 false (.slice none 0 0) (.slice none 0 0) (.slice none 0 0)) (n := w.heap.size + 1) (by simp)).alloc (.cells (tellC 0 0 0 false (.slice none 0 0) (.slice none 0 0) (.slice none 0 0)) 33)
  have hB5 := Blk.new' ((w.alloc (.cells (stepC 5 key st (.slice Av nn cc) dead tt) 29)).alloc (.cells (tellC 0 0 0 false (.slice none 0 0) (.slice none 0 0) (.slice none 0 0)) 33)) 33 (tellC 0 0 0 false (.slice none 0 0) (.slice none 0 0) (.slice none 0 0)) (n := w.heap.size + 1 + 1) (by simp)
  have HO := Lib.hid hO
  have HA := Lib.hid hA
  have HT := Lib.hid hT
  have HR := Lib.hid hR
  have HB4 := Lib.hid hB4
  have HB5 := Lib.hid hB5
  have HBY := Lib.hid (hby.keep hO)
  have HNN := Lib.hid hnn
  have HRA := Lib.hid ((hA w (Only.refl _ _)).keep hO)
  have HZ3 := Lib.hid (show (((w.alloc (.cells (stepC 5 key st (.slice Av nn cc) dead tt) 29)).alloc (.cells (tellC 0 0 0 false (.slice none 0 0) (.slice none 0 0) (.slice none 0 0)) 33)).alloc (.cells (tellC 0 0 0 false (.slice none 0 0) (.slice none 0 0) (.slice none 0 0)) 33)).heap.size = w.heap.size + 3 by simp)
  have HC := Lib.hid (Live_ref (((w.alloc (.cells (stepC 5 key st (.slice Av nn cc) dead tt) 29)).alloc (.cells (tellC 0 0 0 false (.slice none 0 0) (.slice none 0 0) (.slice none 0 0)) 33)).alloc (.cells (tellC 0 0 0 false (.slice none 0 0) (.slice none 0 0) (.slice none 0 0)) 33)) A cap rs R hR HRA.out (by omega))
  have c0 := hB3.cellv 0 rfl
  have c1 := hB3.cellv 1 rfl
  have c2 := hB3.cellv 2 rfl
  have c3 := hB3.cellv 3 rfl
  have c4 := hB3.cellv 4 rfl
  have c5 := hB3.cellv 5 rfl
  obtain ⟨n, hn⟩ : ∃ n, rs.length = n := ⟨_, rfl⟩
  have HN := Lib.hid hn
  rw [hn] at hfew ⊢
  rw [hn] at HC
  clear hO hB3 hB4 hB5 hby hR hA hT hn hnn
  go_enter Try.func32, Try.ntmps32
  go_wp2_with fail
  refine HC.out.mono ?_; rintro e w4 ⟨rfl, hO4⟩
  have HO4 := Lib.hid hO4
  have hsz4 := hO4.size
  have hz4 : w.heap.size + 3 ≤ w4.heap.size := by simpa using hsz4
  have B4 := HB4.out.only hO4 (fun h => h)
  have B5 := HB5.out.only hO4 (fun h => h)
  have f1 := B5.free 1
  have k1 := B5.cellv 1 rfl
  have F5 := Lib.hid (B5.put 1 (.int .i64 (liveR R)))
  have F4 := Lib.hid (B4.far (p := ⟨w.heap.size + 1 + 1, 1, none⟩) (by simp) (.int .i64 (liveR R)))
  have FR := Lib.hid (F4.out.row #[.int .i64 0, .int .i64 (liveR R), .int .i64 0, .bool false, .slice none 0 0, .slice none 0 0, .slice none 0 0])
  have FO := Lib.hid (((Only.refl (fun k => k = w.heap.size + 1 ∨ k = w.heap.size + 1 + 1) w4).put (p := ⟨w.heap.size + 1 + 1, 1, none⟩) (.inl (.inr rfl)) (.int .i64 (liveR R))).row (b := w.heap.size + 1) (.inl (.inl rfl)) #[.int .i64 0, .int .i64 (liveR R), .int .i64 0, .bool false, .slice none 0 0, .slice none 0 0, .slice none 0 0])
  clear B4 B5
  go_wp2_with (first | (refine wpList_load_row rfl 33 (.tmp 6) rfl (w.heap.size + 1 + 1) rfl 33 _ (0, 0) _ F5.out Try.underlying33 rfl info33 ?_) | (refine wpList_store_row rfl 33 (.tmp 4) (.tmp 89) rfl (w.heap.size + 1) #[.int .i64 0, .int .i64 (liveR R), .int .i64 0, .bool false, .slice none 0 0, .slice none 0 0, .slice none 0 0] rfl rfl 33 (tellC 0 0 0 false (.slice none 0 0) (.slice none 0 0) (.slice none 0 0)) F4.out info33 rfl (by simp [Value.oneCell']) ?_) | fail)
  have g0 := FR.out.cellv 0 rfl
  have g1 := FR.out.cellv 1 rfl
  have g2 := FR.out.cellv 2 rfl
  have g3 := FR.out.cellv 3 rfl
  have g4 := FR.out.cellv 4 rfl
  have g5 := FR.out.cellv 5 rfl
  have g6 := FR.out.cellv 6 rfl
  have HOF := Lib.hid ((HO.out.trans HO4.out).step FO.out (fun k hk e => by have := HZ3.out; omega))
  refine bodyPost_ret (v := .tuple #[.agg #[.int .i64 0, .int .i64 (liveR R), .int .i64 0, .bool false, .slice none 0 0, .slice none 0 0, .slice none 0 0], .slice A n cap]) (by simp [results, Try.results32, go_sem, g0, g1, g2, g3, g4, g5, g6]) rfl ?_
  have HLD := Lib.hid (fun w'' (ho : Only (T33 T _) _ w'') => HA.out w'' (t33_back HOF.out ho))
  exact ⟨_, A, cap, rs, by rw [HN.out], HR.out, HOF.out, fun w'' ho => ⟨tat_plain _ _ _ _ _, HLD.out w'' ho⟩⟩
set_option maxRecDepth 100000 in
set_option maxHeartbeats 8000000 in
theorem want33_6 (w : World) (T : Nat → Prop) (A : Option Addr) (cap : Nat) (rs : List VRow) (R : List KV) (x : Stp) (Av : Option Addr) (cc : Nat) (hT : ∀ k, T k → k < w.heap.size) (hR : RGood rs R) (hA : ∀ w', Only (T33 T w) w w' → RAt w' A rs) (hfew : rs.length < 2513169434843)
    (hk : x.kind = 6) (hkey : x.key.size ≤ maxLen) (hby : BytesAt w Av x.bs) :
    Calls Try.prog 32 #[.slice A rs.length cap, .agg (stepC x.kind x.key x.st (.slice Av x.bs.length cc) x.dead x.tt)] w (WantP33 T R x w) := by
  obtain ⟨kind, key, st, bs, dead, tt⟩ := x
  simp only at hk hkey hby ⊢
  subst hk
  obtain ⟨nn, hnn⟩ : ∃ nn, bs.length = nn := ⟨_, rfl⟩
  rw [hnn]
  have hO : Only NoneOf w (((w.alloc (.cells (stepC 6 key st (.slice Av nn cc) dead tt) 29)).alloc (.cells (tellC 0 0 0 false (.slice none 0 0) (.slice none 0 0) (.slice none 0 0)) 33)).alloc (.cells (tellC 0 0 0 false (.slice none 0 0) (.slice none 0 0) (.slice none 0 0)) 33)) := (((Only.refl _ _).alloc _).alloc _).alloc _
  have hB3 := ((Blk.new w 29 (stepC 6 key st (.slice Av nn cc) dead tt)).alloc (.cells (tellC 0 0 0 false (.slice none 0 0) (.slice none 0 0) (.slice none 0 0)) 33)).alloc (.cells (tellC 0 0 0 false (.slice none 0 0) (.slice none 0 0) (.slice none 0 0)) 33)
  have hB4 := (Blk.new' (w.alloc (.cells (stepC 6 key st (.slice Av nn cc) dead tt) 29)) 33 (tellC 0 0 0 false (.slice none 0 0) (.slice none 0 0) (.slice none 0 0)) (n := w.heap.size + 1) (by simp)).alloc (.cells (tellC 0 0 0 false (.slice none 0 0) (.slice none 0 0) (.slice none 0 0)) 33)
  have hB5 := Blk.new' ((w.alloc (.cells (stepC 6 key st (.slice Av nn cc) dead tt) 29)).alloc (.cells (tellC 0 0 0 false (.slice none 0 0) (.slice none 0 0) (.slice none 0 0)) 33)) 33 (tellC 0 0 0 false (.slice none 0 0) (.slice none 0 0) (.slice none 0 0)) (n := w.heap.size + 1 + 1) (by simp)
  have HO := Lib.hid hO
  have HA := Lib.hid hA
  have HT := Lib.hid hT
  have HR := Lib.hid hR
  have HB4 := Lib.hid hB4
  have HB5 := Lib.hid hB5
  have HBY := Lib.hid (hby.keep hO)
  have HNN := Lib.hid hnn
  have HRA := Lib.hid ((hA w (Only.refl _ _)).keep hO)
  have HZ3 := Lib.hid (show (((w.alloc (.cells (stepC 6 key st (.slice Av nn cc) dead tt) 29)).alloc (.cells (tellC 0 0 0 false (.slice none 0 0) (.slice none 0 0) (.slice none 0 0)) 33)).alloc (.cells (tellC 0 0 0 false (.slice none 0 0) (.slice none 0 0) (.slice none 0 0)) 33)).heap.size = w.heap.size + 3 by simp)
  have HC := Keys_ref (((w.alloc (.cells (stepC 6 key st (.slice Av nn cc) dead tt) 29)).alloc (.cells (tellC 0 0 0 false (.slice none 0 0) (.slice none 0 0) (.slice none 0 0)) 33)).alloc (.cells (tellC 0 0 0 false (.slice none 0 0) (.slice none 0 0) (.slice none 0 0)) 33)) A cap rs HRA.out (by omega)
  rw [hR.keys] at HC
  replace HC := Lib.hid HC
  have c0 := hB3.cellv 0 rfl
  have c1 := hB3.cellv 1 rfl
  have c2 := hB3.cellv 2 rfl
  have c3 := hB3.cellv 3 rfl
  have c4 := hB3.cellv 4 rfl
  have c5 := hB3.cellv 5 rfl
  obtain ⟨n, hn⟩ : ∃ n, rs.length = n := ⟨_, rfl⟩
  have HN := Lib.hid hn
  rw [hn] at hfew ⊢
  rw [hn] at HC
  clear hO hB3 hB4 hB5 hby hR hA hT hn hnn
  go_enter Try.func32, Try.ntmps32
  go_wp2_with fail
  refine HC.out.mono ?_; rintro e w4 ⟨vk, rfl, hrow, hO4⟩
  obtain ⟨Ak, ck, rfl⟩ := ownsRow_slice hrow
  have HO4 := Lib.hid hO4
  have hsz4 := hO4.size
  have hz4 : w.heap.size + 3 ≤ w4.heap.size := by simpa using hsz4
  have B4 := HB4.out.only hO4 (fun h => h)
  have B5 := HB5.out.only hO4 (fun h => h)
  have HLEN := Lib.hid HR.out.len
  obtain ⟨nk, hnk⟩ : ∃ nk, (keysR R).length = nk := ⟨_, rfl⟩
  have HNK := Lib.hid hnk
  rw [hnk]
  clear hrow hnk
  have f1 := B5.free 1
  have k1 := B5.cellv 1 rfl
  have f2 := B5.free 2
  have k2 := B5.cellv 2 rfl
  have F5 := Lib.hid ((B5.put 1 (.int .i64 (nk : Int))).put 2 (.int .i64 (n : Int)))
  have F4 := Lib.hid ((B4.far (p := ⟨w.heap.size + 1 + 1, 1, none⟩) (by simp) (.int .i64 (nk : Int))).far (p := ⟨w.heap.size + 1 + 1, 2, none⟩) (by simp) (.int .i64 (n : Int)))
  have FR := Lib.hid (F4.out.row #[.int .i64 0, .int .i64 (nk : Int), .int .i64 (n : Int), .bool false, .slice none 0 0, .slice none 0 0, .slice none 0 0])
  have FO := Lib.hid ((((Only.refl (fun k => k = w.heap.size + 1 ∨ k = w.heap.size + 1 + 1) w4).put (p := ⟨w.heap.size + 1 + 1, 1, none⟩) (.inl (.inr rfl)) (.int .i64 (nk : Int))).put (p := ⟨w.heap.size + 1 + 1, 2, none⟩) (.inl (.inr rfl)) (.int .i64 (n : Int))).row (b := w.heap.size + 1) (.inl (.inl rfl)) #[.int .i64 0, .int .i64 (nk : Int), .int .i64 (n : Int), .bool false, .slice none 0 0, .slice none 0 0, .slice none 0 0])
  clear B4 B5
  go_wp2_with (first | (refine wpList_load_row rfl 33 (.tmp 6) rfl (w.heap.size + 1 + 1) rfl 33 _ (0, 0) _ F5.out Try.underlying33 rfl info33 ?_) | (refine wpList_store_row rfl 33 (.tmp 4) (.tmp 89) rfl (w.heap.size + 1) #[.int .i64 0, .int .i64 (nk : Int), .int .i64 (n : Int), .bool false, .slice none 0 0, .slice none 0 0, .slice none 0 0] rfl rfl 33 (tellC 0 0 0 false (.slice none 0 0) (.slice none 0 0) (.slice none 0 0)) F4.out info33 rfl (by simp [Value.oneCell']) ?_) | fail)
  have g0 := FR.out.cellv 0 rfl
  have g1 := FR.out.cellv 1 rfl
  have g2 := FR.out.cellv 2 rfl
  have g3 := FR.out.cellv 3 rfl
  have g4 := FR.out.cellv 4 rfl
  have g5 := FR.out.cellv 5 rfl
  have g6 := FR.out.cellv 6 rfl
  have HOF := Lib.hid ((HO.out.trans HO4.out).step FO.out (fun k hk e => by have := HZ3.out; omega))
  refine bodyPost_ret (v := .tuple #[.agg #[.int .i64 0, .int .i64 (nk : Int), .int .i64 (n : Int), .bool false, .slice none 0 0, .slice none 0 0, .slice none 0 0], .slice A n cap]) (by simp [results, Try.results32, go_sem, g0, g1, g2, g3, g4, g5, g6]) rfl ?_
  have HLD := Lib.hid (fun w'' (ho : Only (T33 T _) _ w'') => HA.out w'' (t33_back HOF.out ho))
  have e9 : ansR R ⟨6, key, st, bs, dead, tt⟩ = { n := (nk : Int), m := (n : Int) } := by simp [ansR, HNK.out, ← HLEN.out, HN.out]
  exact ⟨_, A, cap, rs, by rw [HN.out], HR.out, HOF.out, fun w'' ho => ⟨by rw [e9]; exact tat_plain _ _ _ _ _, HLD.out w'' ho⟩⟩
set_option maxRecDepth 100000 in
set_option maxHeartbeats 8000000 in
theorem want33_3 (w : World) (T : Nat → Prop) (A : Option Addr) (cap : Nat) (rs : List VRow) (R : List KV) (x : Stp) (Av : Option Addr) (cc : Nat) (hT : ∀ k, T k → k < w.heap.size) (hR : RGood rs R) (hA : ∀ w', Only (T33 T w) w w' → RAt w' A rs) (hfew : rs.length < 2513169434843)
    (hk : x.kind = 3) (hkey : x.key.size ≤ maxLen) (hby : BytesAt w Av x.bs) :
    Calls Try.prog 32 #[.slice A rs.length cap, .agg (stepC x.kind x.key x.st (.slice Av x.bs.length cc) x.dead x.tt)] w (WantP33 T R x w) := by
  obtain ⟨kind, key, st, bs, dead, tt⟩ := x
  simp only at hk hkey hby ⊢
  subst hk
  obtain ⟨nn, hnn⟩ : ∃ nn, bs.length = nn := ⟨_, rfl⟩
  rw [hnn]
  have hO : Only NoneOf w (((w.alloc (.cells (stepC 3 key st (.slice Av nn cc) dead tt) 29)).alloc (.cells (tellC 0 0 0 false (.slice none 0 0) (.slice none 0 0) (.slice none 0 0)) 33)).alloc (.cells (tellC 0 0 0 false (.slice none 0 0) (.slice none 0 0) (.slice none 0 0)) 33)) := (((Only.refl _ _).alloc _).alloc _).alloc _
  have hB3 := ((Blk.new w 29 (stepC 3 key st (.slice Av nn cc) dead tt)).alloc (.cells (tellC 0 0 0 false (.slice none 0 0) (.slice none 0 0) (.slice none 0 0)) 33)).alloc (.cells (tellC 0 0 0 false (.slice none 0 0) (.slice none 0 0) (.slice none 0 0)) 33)
  have hB4 := (Blk.new' (w.alloc (.cells (stepC 3 key st (.slice Av nn cc) dead tt) 29)) 33 (tellC 0 0 0 false (.slice none 0 0) (.slice none 0 0) (.slice none 0 0)) (n := w.heap.size + 1) (by simp)).alloc (.cells (tellC 0 0 0 false (.slice none 0 0) (.slice none 0 0) (.slice none 0 0)) 33)
  have hB5 := Blk.new' ((w.alloc (.cells (stepC 3 key st (.slice Av nn cc) dead tt) 29)).alloc (.cells (tellC 0 0 0 false (.slice none 0 0) (.slice none 0 0) (.slice none 0 0)) 33)) 33 (tellC 0 0 0 false (.slice none 0 0) (.slice none 0 0) (.slice none 0 0)) (n := w.heap.size + 1 + 1) (by simp)
  have HO := Lib.hid hO
  have HA := Lib.hid hA
  have HT := Lib.hid hT
  have HR := Lib.hid hR
  have HB4 := Lib.hid hB4
  have HB5 := Lib.hid hB5
  have HBY := Lib.hid (hby.keep hO)
  have HNN := Lib.hid hnn
  have HRA := Lib.hid ((hA w (Only.refl _ _)).keep hO)
  have HZ3 := Lib.hid (show (((w.alloc (.cells (stepC 3 key st (.slice Av nn cc) dead tt) 29)).alloc (.cells (tellC 0 0 0 false (.slice none 0 0) (.slice none 0 0) (.slice none 0 0)) 33)).alloc (.cells (tellC 0 0 0 false (.slice none 0 0) (.slice none 0 0) (.slice none 0 0)) 33)).heap.size = w.heap.size + 3 by simp)
  have HC := Lib.hid (Scan_ref (((w.alloc (.cells (stepC 3 key st (.slice Av nn cc) dead tt) 29)).alloc (.cells (tellC 0 0 0 false (.slice none 0 0) (.slice none 0 0) (.slice none 0 0)) 33)).alloc (.cells (tellC 0 0 0 false (.slice none 0 0) (.slice none 0 0) (.slice none 0 0)) 33)) A cap rs R hR HRA.out (by omega) key tt st)
  have c0 := hB3.cellv 0 rfl
  have c1 := hB3.cellv 1 rfl
  have c2 := hB3.cellv 2 rfl
  have c3 := hB3.cellv 3 rfl
  have c4 := hB3.cellv 4 rfl
  have c5 := hB3.cellv 5 rfl
  obtain ⟨n, hn⟩ : ∃ n, rs.length = n := ⟨_, rfl⟩
  have HN := Lib.hid hn
  rw [hn] at hfew ⊢
  rw [hn] at HC
  clear hO hB3 hB4 hB5 hby hR hA hT hn hnn
  go_enter Try.func32, Try.ntmps32
  go_wp2_with fail
  refine HC.out.mono ?_; rintro e w4 ⟨vp, ps, rfl, hps, hpl, hO4⟩
  obtain ⟨Ap, cp, rfl⟩ := ownsRow_slice hps.own
  have HPS := Lib.hid hps
  have HPL := Lib.hid hpl
  have HO4 := Lib.hid hO4
  have hsz4 := hO4.size
  have hz4 : w.heap.size + 3 ≤ w4.heap.size := by simpa using hsz4
  have B4 := HB4.out.only hO4 (fun h => h)
  have B5 := HB5.out.only hO4 (fun h => h)
  clear hps hpl hO4
  have f5 := B5.free 5
  have k5 := B5.cellv 5 rfl
  have F5 := Lib.hid (B5.put 5 (.slice Ap ps.length cp))
  have F4 := Lib.hid (B4.far (p := ⟨w.heap.size + 1 + 1, 5, none⟩) (by simp) (.slice Ap ps.length cp))
  have FR := Lib.hid (F4.out.row #[.int .i64 0, .int .i64 0, .int .i64 0, .bool false, .slice none 0 0, .slice Ap ps.length cp, .slice none 0 0])
  have FO := Lib.hid (((Only.refl (fun k => k = w.heap.size + 1 ∨ k = w.heap.size + 1 + 1) w4).put (p := ⟨w.heap.size + 1 + 1, 5, none⟩) (.inl (.inr rfl)) (.slice Ap ps.length cp)).row (b := w.heap.size + 1) (.inl (.inl rfl)) #[.int .i64 0, .int .i64 0, .int .i64 0, .bool false, .slice none 0 0, .slice Ap ps.length cp, .slice none 0 0])
  clear B4 B5
  go_wp2_with (first | (refine wpList_load_row rfl 33 (.tmp 6) rfl (w.heap.size + 1 + 1) rfl 33 _ (0, 0) _ F5.out Try.underlying33 rfl info33 ?_) | (refine wpList_store_row rfl 33 (.tmp 4) (.tmp 89) rfl (w.heap.size + 1) #[.int .i64 0, .int .i64 0, .int .i64 0, .bool false, .slice none 0 0, .slice Ap ps.length cp, .slice none 0 0] rfl rfl 33 (tellC 0 0 0 false (.slice none 0 0) (.slice none 0 0) (.slice none 0 0)) F4.out info33 rfl (by simp [Value.oneCell']) ?_) | fail)
  have g0 := FR.out.cellv 0 rfl
  have g1 := FR.out.cellv 1 rfl
  have g2 := FR.out.cellv 2 rfl
  have g3 := FR.out.cellv 3 rfl
  have g4 := FR.out.cellv 4 rfl
  have g5 := FR.out.cellv 5 rfl
  have g6 := FR.out.cellv 6 rfl
  have HOF := Lib.hid ((HO.out.trans HO4.out).step FO.out (fun k hk e => by have := HZ3.out; omega))
  refine bodyPost_ret (v := .tuple #[.agg #[.int .i64 0, .int .i64 0, .int .i64 0, .bool false, .slice none 0 0, .slice Ap ps.length cp, .slice none 0 0], .slice A n cap]) (by simp [results, Try.results32, go_sem, g0, g1, g2, g3, g4, g5, g6]) rfl ?_
  have HLD := Lib.hid (fun w'' (ho : Only (T33 T _) _ w'') => HA.out w'' (t33_back HOF.out ho))
  have e9 : ansR R ⟨3, key, st, bs, dead, tt⟩ = { pairs := scanR R key tt st } := rfl
  have hlow : ∀ g, w.heap.size + 3 ≤ g → (¬ (g = w.heap.size + 1 ∨ g = w.heap.size + 1 + 1)) ∧ ¬ T g := fun g hg => ⟨by omega, fun ht => by have := HT.out g ht; omega⟩
  exact ⟨_, A, cap, rs, by rw [HN.out], HR.out, HOF.out, fun w'' ho => ⟨by rw [e9]; exact ⟨_, _, _, rfl, bytesV_nil _, by rw [← HPL.out]; exact listAt_pairs ((HPS.out.only FO.out (fun k hk => (hlow k (by have := (HPS.out.lt hk).1; have := HZ3.out; omega)).1)).only ho (t33_prows (HPS.out.only FO.out (fun k hk => (hlow k (by have := (HPS.out.lt hk).1; have := HZ3.out; omega)).1)) (fun k hk => (hlow k (by have := (HPS.out.lt hk).1; have := HZ3.out; omega)).2))), listAt_nil _ _ _⟩, HLD.out w'' ho⟩⟩
set_option maxRecDepth 100000 in
set_option maxHeartbeats 8000000 in
theorem want33_7 (w : World) (T : Nat → Prop) (A : Option Addr) (cap : Nat) (rs : List VRow) (R : List KV) (x : Stp) (Av : Option Addr) (cc : Nat) (hT : ∀ k, T k → k < w.heap.size) (hR : RGood rs R) (hA : ∀ w', Only (T33 T w) w w' → RAt w' A rs) (hfew : rs.length < 2513169434843)
    (hk : x.kind = 7) (hkey : x.key.size ≤ maxLen) (hby : BytesAt w Av x.bs) :
    Calls Try.prog 32 #[.slice A rs.length cap, .agg (stepC x.kind x.key x.st (.slice Av x.bs.length cc) x.dead x.tt)] w (WantP33 T R x w) := by
  obtain ⟨kind, key, st, bs, dead, tt⟩ := x
  simp only at hk hkey hby ⊢
  subst hk
  obtain ⟨nn, hnn⟩ : ∃ nn, bs.length = nn := ⟨_, rfl⟩
  rw [hnn]
  have hO : Only NoneOf w (((w.alloc (.cells (stepC 7 key st (.slice Av nn cc) dead tt) 29)).alloc (.cells (tellC 0 0 0 false (.slice none 0 0) (.slice none 0 0) (.slice none 0 0)) 33)).alloc (.cells (tellC 0 0 0 false (.slice none 0 0) (.slice none 0 0) (.slice none 0 0)) 33)) := (((Only.refl _ _).alloc _).alloc _).alloc _
  have hB3 := ((Blk.new w 29 (stepC 7 key st (.slice Av nn cc) dead tt)).alloc (.cells (tellC 0 0 0 false (.slice none 0 0) (.slice none 0 0) (.slice none 0 0)) 33)).alloc (.cells (tellC 0 0 0 false (.slice none 0 0) (.slice none 0 0) (.slice none 0 0)) 33)
  have hB4 := (Blk.new' (w.alloc (.cells (stepC 7 key st (.slice Av nn cc) dead tt) 29)) 33 (tellC 0 0 0 false (.slice none 0 0) (.slice none 0 0) (.slice none 0 0)) (n := w.heap.size + 1) (by simp)).alloc (.cells (tellC 0 0 0 false (.slice none 0 0) (.slice none 0 0) (.slice none 0 0)) 33)
  have hB5 := Blk.new' ((w.alloc (.cells (stepC 7 key st (.slice Av nn cc) dead tt) 29)).alloc (.cells (tellC 0 0 0 false (.slice none 0 0) (.slice none 0 0) (.slice none 0 0)) 33)) 33 (tellC 0 0 0 false (.slice none 0 0) (.slice none 0 0) (.slice none 0 0)) (n := w.heap.size + 1 + 1) (by simp)
  have HO := Lib.hid hO
  have HA := Lib.hid hA
  have HT := Lib.hid hT
  have HR := Lib.hid hR
  have HB4 := Lib.hid hB4
  have HB5 := Lib.hid hB5
  have HBY := Lib.hid (hby.keep hO)
  have HNN := Lib.hid hnn
  have HRA := Lib.hid ((hA w (Only.refl _ _)).keep hO)
  have HZ3 := Lib.hid (show (((w.alloc (.cells (stepC 7 key st (.slice Av nn cc) dead tt) 29)).alloc (.cells (tellC 0 0 0 false (.slice none 0 0) (.slice none 0 0) (.slice none 0 0)) 33)).alloc (.cells (tellC 0 0 0 false (.slice none 0 0) (.slice none 0 0) (.slice none 0 0)) 33)).heap.size = w.heap.size + 3 by simp)
  have HC := Lib.hid (Versions_ref (((w.alloc (.cells (stepC 7 key st (.slice Av nn cc) dead tt) 29)).alloc (.cells (tellC 0 0 0 false (.slice none 0 0) (.slice none 0 0) (.slice none 0 0)) 33)).alloc (.cells (tellC 0 0 0 false (.slice none 0 0) (.slice none 0 0) (.slice none 0 0)) 33)) A cap rs R hR HRA.out (by omega))
  have c0 := hB3.cellv 0 rfl
  have c1 := hB3.cellv 1 rfl
  have c2 := hB3.cellv 2 rfl
  have c3 := hB3.cellv 3 rfl
  have c4 := hB3.cellv 4 rfl
  have c5 := hB3.cellv 5 rfl
  obtain ⟨n, hn⟩ : ∃ n, rs.length = n := ⟨_, rfl⟩
  have HN := Lib.hid hn
  rw [hn] at hfew ⊢
  rw [hn] at HC
  clear hO hB3 hB4 hB5 hby hR hA hT hn hnn
  go_enter Try.func32, Try.ntmps32
  go_wp2_with fail
  refine HC.out.mono ?_; rintro e w4 ⟨vq, qs, rfl, hown, hsub, hpl, hO4⟩
  obtain ⟨Aq, cq, rfl⟩ := ownsRow_slice hown
  have HOWN := Lib.hid hown
  have HSUB := Lib.hid hsub
  have HPL := Lib.hid hpl
  have HO4 := Lib.hid hO4
  have hsz4 := hO4.size
  have hz4 : w.heap.size + 3 ≤ w4.heap.size := by simpa using hsz4
  have B4 := HB4.out.only hO4 (fun h => h)
  have B5 := HB5.out.only hO4 (fun h => h)
  clear hown hsub hpl hO4
  have f6 := B5.free 6
  have k6 := B5.cellv 6 rfl
  have F5 := Lib.hid (B5.put 6 (.slice Aq qs.length cq))
  have F4 := Lib.hid (B4.far (p := ⟨w.heap.size + 1 + 1, 6, none⟩) (by simp) (.slice Aq qs.length cq))
  have FR := Lib.hid (F4.out.row #[.int .i64 0, .int .i64 0, .int .i64 0, .bool false, .slice none 0 0, .slice none 0 0, .slice Aq qs.length cq])
  have FO := Lib.hid (((Only.refl (fun k => k = w.heap.size + 1 ∨ k = w.heap.size + 1 + 1) w4).put (p := ⟨w.heap.size + 1 + 1, 6, none⟩) (.inl (.inr rfl)) (.slice Aq qs.length cq)).row (b := w.heap.size + 1) (.inl (.inl rfl)) #[.int .i64 0, .int .i64 0, .int .i64 0, .bool false, .slice none 0 0, .slice none 0 0, .slice Aq qs.length cq])
  clear B4 B5
  go_wp2_with (first | (refine wpList_load_row rfl 33 (.tmp 6) rfl (w.heap.size + 1 + 1) rfl 33 _ (0, 0) _ F5.out Try.underlying33 rfl info33 ?_) | (refine wpList_store_row rfl 33 (.tmp 4) (.tmp 89) rfl (w.heap.size + 1) #[.int .i64 0, .int .i64 0, .int .i64 0, .bool false, .slice none 0 0, .slice none 0 0, .slice Aq qs.length cq] rfl rfl 33 (tellC 0 0 0 false (.slice none 0 0) (.slice none 0 0) (.slice none 0 0)) F4.out info33 rfl (by simp [Value.oneCell']) ?_) | fail)
  have g0 := FR.out.cellv 0 rfl
  have g1 := FR.out.cellv 1 rfl
  have g2 := FR.out.cellv 2 rfl
  have g3 := FR.out.cellv 3 rfl
  have g4 := FR.out.cellv 4 rfl
  have g5 := FR.out.cellv 5 rfl
  have g6 := FR.out.cellv 6 rfl
  have HOF := Lib.hid ((HO.out.trans HO4.out).step FO.out (fun k hk e => by have := HZ3.out; omega))
  refine bodyPost_ret (v := .tuple #[.agg #[.int .i64 0, .int .i64 0, .int .i64 0, .bool false, .slice none 0 0, .slice none 0 0, .slice Aq qs.length cq], .slice A n cap]) (by simp [results, Try.results32, go_sem, g0, g1, g2, g3, g4, g5, g6]) rfl ?_
  have HLD := Lib.hid (fun w'' (ho : Only (T33 T _) _ w'') => HA.out w'' (t33_back HOF.out ho))
  have e9 : ansR R ⟨7, key, st, bs, dead, tt⟩ = { l := versR R } := rfl
  have hlow : ∀ g, w.heap.size + 3 ≤ g → (¬ (g = w.heap.size + 1 ∨ g = w.heap.size + 1 + 1)) ∧ ¬ T g := fun g hg => ⟨by omega, fun ht => by have := HT.out g ht; omega⟩
  exact ⟨_, A, cap, rs, by rw [HN.out], HR.out, HOF.out, fun w'' ho => ⟨by rw [e9]; exact ⟨_, _, _, rfl, bytesV_nil _, listAt_nil _ _ _, by rw [← HPL.out]; exact list_rows (ownsRow_only (ownsRow_only HOWN.out FO.out (fun g hg => (hlow g (by have := (ownsRow_lt HOWN.out hg).1; have := HZ3.out; omega)).1)) ho (t33_own (ownsRow_only HOWN.out FO.out (fun g hg => (hlow g (by have := (ownsRow_lt HOWN.out hg).1; have := HZ3.out; omega)).1)) (by decide) (fun g hg => (hlow g (by have := (ownsRow_lt HOWN.out hg).1; have := HZ3.out; omega)).2))) (fun r hr => rat_val (HLD.out w'' ho) (HSUB.out r hr))⟩, HLD.out w'' ho⟩⟩
set_option maxRecDepth 100000 in
set_option maxHeartbeats 8000000 in
theorem want33_2 (w : World) (T : Nat → Prop) (A : Option Addr) (cap : Nat) (rs : List VRow) (R : List KV) (x : Stp) (Av : Option Addr) (cc : Nat) (hT : ∀ k, T k → k < w.heap.size) (hR : RGood rs R) (hA : ∀ w', Only (T33 T w) w w' → RAt w' A rs) (hfew : rs.length < 2513169434843)
    (hk : x.kind = 2) (hkey : x.key.size ≤ maxLen) (hby : BytesAt w Av x.bs) :
    Calls Try.prog 32 #[.slice A rs.length cap, .agg (stepC x.kind x.key x.st (.slice Av x.bs.length cc) x.dead x.tt)] w (WantP33 T R x w) := by
  obtain ⟨kind, key, st, bs, dead, tt⟩ := x
  simp only at hk hkey hby ⊢
  subst hk
  obtain ⟨nn, hnn⟩ : ∃ nn, bs.length = nn := ⟨_, rfl⟩
  rw [hnn]
  have hO : Only NoneOf w (((w.alloc (.cells (stepC 2 key st (.slice Av nn cc) dead tt) 29)).alloc (.cells (tellC 0 0 0 false (.slice none 0 0) (.slice none 0 0) (.slice none 0 0)) 33)).alloc (.cells (tellC 0 0 0 false (.slice none 0 0) (.slice none 0 0) (.slice none 0 0)) 33)) := (((Only.refl _ _).alloc _).alloc _).alloc _
  have hB3 := ((Blk.new w 29 (stepC 2 key st (.slice Av nn cc) dead tt)).alloc (.cells (tellC 0 0 0 false (.slice none 0 0) (.slice none 0 0) (.slice none 0 0)) 33)).alloc (.cells (tellC 0 0 0 false (.slice none 0 0) (.slice none 0 0) (.slice none 0 0)) 33)
  have hB4 := (Blk.new' (w.alloc (.cells (stepC 2 key st (.slice Av nn cc) dead tt) 29)) 33 (tellC 0 0 0 false (.slice none 0 0) (.slice none 0 0) (.slice none 0 0)) (n := w.heap.size + 1) (by simp)).alloc (.cells (tellC 0 0 0 false (.slice none 0 0) (.slice none 0 0) (.slice none 0 0)) 33)
  have hB5 := Blk.new' ((w.alloc (.cells (stepC 2 key st (.slice Av nn cc) dead tt) 29)).alloc (.cells (tellC 0 0 0 false (.slice none 0 0) (.slice none 0 0) (.slice none 0 0)) 33)) 33 (tellC 0 0 0 false (.slice none 0 0) (.slice none 0 0) (.slice none 0 0)) (n := w.heap.size + 1 + 1) (by simp)
  have HO := Lib.hid hO
  have HA := Lib.hid hA
  have HT := Lib.hid hT
  have HR := Lib.hid hR
  have HB4 := Lib.hid hB4
  have HB5 := Lib.hid hB5
  have HBY := Lib.hid (hby.keep hO)
  have HNN := Lib.hid hnn
  have HRA := Lib.hid ((hA w (Only.refl _ _)).keep hO)
  have HZ3 := Lib.hid (show (((w.alloc (.cells (stepC 2 key st (.slice Av nn cc) dead tt) 29)).alloc (.cells (tellC 0 0 0 false (.slice none 0 0) (.slice none 0 0) (.slice none 0 0)) 33)).alloc (.cells (tellC 0 0 0 false (.slice none 0 0) (.slice none 0 0) (.slice none 0 0)) 33)).heap.size = w.heap.size + 3 by simp)
  have HC := Lib.hid (Newest_ref (((w.alloc (.cells (stepC 2 key st (.slice Av nn cc) dead tt) 29)).alloc (.cells (tellC 0 0 0 false (.slice none 0 0) (.slice none 0 0) (.slice none 0 0)) 33)).alloc (.cells (tellC 0 0 0 false (.slice none 0 0) (.slice none 0 0) (.slice none 0 0)) 33)) A cap rs key HRA.out (by omega))
  have c0 := hB3.cellv 0 rfl
  have c1 := hB3.cellv 1 rfl
  have c2 := hB3.cellv 2 rfl
  have c3 := hB3.cellv 3 rfl
  have c4 := hB3.cellv 4 rfl
  have c5 := hB3.cellv 5 rfl
  obtain ⟨n, hn⟩ : ∃ n, rs.length = n := ⟨_, rfl⟩
  have HN := Lib.hid hn
  rw [hn] at hfew ⊢
  rw [hn] at HC
  clear hO hB3 hB4 hB5 hby hR hA hT hn hnn
  go_enter Try.func32, Try.ntmps32
  have HLAST := Lib.hid (HR.out.last key)
  obtain ⟨o, ho⟩ : ∃ o, nwRow rs key 4611686018427387904 = o := ⟨_, rfl⟩
  rw [ho] at HC HLAST
  go_wp2_with fail
  refine HC.out.mono ?_; rintro e w4 ⟨rfl, hO4⟩
  have HO4 := Lib.hid hO4
  have hsz4 := hO4.size
  have hz4 : w.heap.size + 3 ≤ w4.heap.size := by simpa using hsz4
  have B4 := HB4.out.only hO4 (fun h => h)
  have B5 := HB5.out.only hO4 (fun h => h)
  clear ho hO4
  cases o with
  | none =>
    simp only [Option.isSome_none]
    have f1 := B5.free 1
    have k1 := B5.cellv 1 rfl
    have f3 := B5.free 3
    have k3 := B5.cellv 3 rfl
    have F5 := Lib.hid ((B5.put 1 (.int .i64 0)).put 3 (.bool false))
    have F4 := Lib.hid ((B4.far (p := ⟨w.heap.size + 1 + 1, 1, none⟩) (by simp) (.int .i64 0)).far (p := ⟨w.heap.size + 1 + 1, 3, none⟩) (by simp) (.bool false))
    have FR := Lib.hid (F4.out.row #[.int .i64 0, .int .i64 0, .int .i64 0, .bool false, .slice none 0 0, .slice none 0 0, .slice none 0 0])
    have FO := Lib.hid ((((Only.refl (fun k => k = w.heap.size + 1 ∨ k = w.heap.size + 1 + 1) w4).put (p := ⟨w.heap.size + 1 + 1, 1, none⟩) (.inl (.inr rfl)) (.int .i64 0)).put (p := ⟨w.heap.size + 1 + 1, 3, none⟩) (.inl (.inr rfl)) (.bool false)).row (b := w.heap.size + 1) (.inl (.inl rfl)) #[.int .i64 0, .int .i64 0, .int .i64 0, .bool false, .slice none 0 0, .slice none 0 0, .slice none 0 0])
    clear B4 B5
    go_wp2_with (first | (refine wpList_load_row rfl 33 (.tmp 6) rfl (w.heap.size + 1 + 1) rfl 33 _ (0, 0) _ F5.out Try.underlying33 rfl info33 ?_) | (refine wpList_store_row rfl 33 (.tmp 4) (.tmp 89) rfl (w.heap.size + 1) #[.int .i64 0, .int .i64 0, .int .i64 0, .bool false, .slice none 0 0, .slice none 0 0, .slice none 0 0] rfl rfl 33 (tellC 0 0 0 false (.slice none 0 0) (.slice none 0 0) (.slice none 0 0)) F4.out info33 rfl (by simp [Value.oneCell']) ?_) | fail)
    have g0 := FR.out.cellv 0 rfl
    have g1 := FR.out.cellv 1 rfl
    have g2 := FR.out.cellv 2 rfl
    have g3 := FR.out.cellv 3 rfl
    have g4 := FR.out.cellv 4 rfl
    have g5 := FR.out.cellv 5 rfl
    have g6 := FR.out.cellv 6 rfl
    have HOF := Lib.hid ((HO.out.trans HO4.out).step FO.out (fun k hk e => by have := HZ3.out; omega))
    refine bodyPost_ret (v := .tuple #[.agg #[.int .i64 0, .int .i64 0, .int .i64 0, .bool false, .slice none 0 0, .slice none 0 0, .slice none 0 0], .slice A n cap]) (by simp [results, Try.results32, go_sem, g0, g1, g2, g3, g4, g5, g6]) rfl ?_
    have HLD := Lib.hid (fun w'' (ho : Only (T33 T _) _ w'') => HA.out w'' (t33_back HOF.out ho))
    have e9 : ansR R ⟨2, key, st, bs, dead, tt⟩ = {} := by simp [ansR, ← HLAST.out]
    exact ⟨_, A, cap, rs, by rw [HN.out], HR.out, HOF.out, fun w'' ho => ⟨by rw [e9]; exact tat_plain _ _ _ _ _, HLD.out w'' ho⟩⟩
  | some r =>
    simp only [Option.isSome_some]
    have f1 := B5.free 1
    have k1 := B5.cellv 1 rfl
    have f3 := B5.free 3
    have k3 := B5.cellv 3 rfl
    have F5 := Lib.hid ((B5.put 1 (.int .i64 r.st)).put 3 (.bool true))
    have F4 := Lib.hid ((B4.far (p := ⟨w.heap.size + 1 + 1, 1, none⟩) (by simp) (.int .i64 r.st)).far (p := ⟨w.heap.size + 1 + 1, 3, none⟩) (by simp) (.bool true))
    have FR := Lib.hid (F4.out.row #[.int .i64 0, .int .i64 r.st, .int .i64 0, .bool true, .slice none 0 0, .slice none 0 0, .slice none 0 0])
    have FO := Lib.hid ((((Only.refl (fun k => k = w.heap.size + 1 ∨ k = w.heap.size + 1 + 1) w4).put (p := ⟨w.heap.size + 1 + 1, 1, none⟩) (.inl (.inr rfl)) (.int .i64 r.st)).put (p := ⟨w.heap.size + 1 + 1, 3, none⟩) (.inl (.inr rfl)) (.bool true)).row (b := w.heap.size + 1) (.inl (.inl rfl)) #[.int .i64 0, .int .i64 r.st, .int .i64 0, .bool true, .slice none 0 0, .slice none 0 0, .slice none 0 0])
    clear B4 B5
    go_wp2_with (first | (refine wpList_load_row rfl 33 (.tmp 6) rfl (w.heap.size + 1 + 1) rfl 33 _ (0, 0) _ F5.out Try.underlying33 rfl info33 ?_) | (refine wpList_store_row rfl 33 (.tmp 4) (.tmp 89) rfl (w.heap.size + 1) #[.int .i64 0, .int .i64 r.st, .int .i64 0, .bool true, .slice none 0 0, .slice none 0 0, .slice none 0 0] rfl rfl 33 (tellC 0 0 0 false (.slice none 0 0) (.slice none 0 0) (.slice none 0 0)) F4.out info33 rfl (by simp [Value.oneCell']) ?_) | fail)
    have g0 := FR.out.cellv 0 rfl
    have g1 := FR.out.cellv 1 rfl
    have g2 := FR.out.cellv 2 rfl
    have g3 := FR.out.cellv 3 rfl
    have g4 := FR.out.cellv 4 rfl
    have g5 := FR.out.cellv 5 rfl
    have g6 := FR.out.cellv 6 rfl
    have HOF := Lib.hid ((HO.out.trans HO4.out).step FO.out (fun k hk e => by have := HZ3.out; omega))
    refine bodyPost_ret (v := .tuple #[.agg #[.int .i64 0, .int .i64 r.st, .int .i64 0, .bool true, .slice none 0 0, .slice none 0 0, .slice none 0 0], .slice A n cap]) (by simp [results, Try.results32, go_sem, g0, g1, g2, g3, g4, g5, g6]) rfl ?_
    have HLD := Lib.hid (fun w'' (ho : Only (T33 T _) _ w'') => HA.out w'' (t33_back HOF.out ho))
    have e9 : ansR R ⟨2, key, st, bs, dead, tt⟩ = { n := r.st, is := true } := by simp [ansR, ← HLAST.out, VRow.ver]
    exact ⟨_, A, cap, rs, by rw [HN.out], HR.out, HOF.out, fun w'' ho => ⟨by rw [e9]; exact tat_plain _ _ _ _ _, HLD.out w'' ho⟩⟩
set_option maxRecDepth 100000 in
set_option maxHeartbeats 8000000 in
theorem want33_1 (w : World) (T : Nat → Prop) (A : Option Addr) (cap : Nat) (rs : List VRow) (R : List KV) (x : Stp) (Av : Option Addr) (cc : Nat) (hT : ∀ k, T k → k < w.heap.size) (hR : RGood rs R) (hA : ∀ w', Only (T33 T w) w w' → RAt w' A rs) (hfew : rs.length < 2513169434843)
    (hk : x.kind = 1) (hkey : x.key.size ≤ maxLen) (hby : BytesAt w Av x.bs) :
    Calls Try.prog 32 #[.slice A rs.length cap, .agg (stepC x.kind x.key x.st (.slice Av x.bs.length cc) x.dead x.tt)] w (WantP33 T R x w) := by
  obtain ⟨kind, key, st, bs, dead, tt⟩ := x
  simp only at hk hkey hby ⊢
  subst hk
  obtain ⟨nn, hnn⟩ : ∃ nn, bs.length = nn := ⟨_, rfl⟩
  rw [hnn]
  have hO : Only NoneOf w (((w.alloc (.cells (stepC 1 key st (.slice Av nn cc) dead tt) 29)).alloc (.cells (tellC 0 0 0 false (.slice none 0 0) (.slice none 0 0) (.slice none 0 0)) 33)).alloc (.cells (tellC 0 0 0 false (.slice none 0 0) (.slice none 0 0) (.slice none 0 0)) 33)) := (((Only.refl _ _).alloc _).alloc _).alloc _
  have hB3 := ((Blk.new w 29 (stepC 1 key st (.slice Av nn cc) dead tt)).alloc (.cells (tellC 0 0 0 false (.slice none 0 0) (.slice none 0 0) (.slice none 0 0)) 33)).alloc (.cells (tellC 0 0 0 false (.slice none 0 0) (.slice none 0 0) (.slice none 0 0)) 33)
  have hB4 := (Blk.new' (w.alloc (.cells (stepC 1 key st (.slice Av nn cc) dead tt) 29)) 33 (tellC 0 0 0 false (.slice none 0 0) (.slice none 0 0) (.slice none 0 0)) (n := w.heap.size + 1) (by simp)).alloc (.cells (tellC 0 0 0 false (.slice none 0 0) (.slice none 0 0) (.slice none 0 0)) 33)
  have hB5 := Blk.new' ((w.alloc (.cells (stepC 1 key st (.slice Av nn cc) dead tt) 29)).alloc (.cells (tellC 0 0 0 false (.slice none 0 0) (.slice none 0 0) (.slice none 0 0)) 33)) 33 (tellC 0 0 0 false (.slice none 0 0) (.slice none 0 0) (.slice none 0 0)) (n := w.heap.size + 1 + 1) (by simp)
  have HO := Lib.hid hO
  have HA := Lib.hid hA
  have HT := Lib.hid hT
  have HR := Lib.hid hR
  have HB4 := Lib.hid hB4
  have HB5 := Lib.hid hB5
  have HBY := Lib.hid (hby.keep hO)
  have HNN := Lib.hid hnn
  have HRA := Lib.hid ((hA w (Only.refl _ _)).keep hO)
  have HZ3 := Lib.hid (show (((w.alloc (.cells (stepC 1 key st (.slice Av nn cc) dead tt) 29)).alloc (.cells (tellC 0 0 0 false (.slice none 0 0) (.slice none 0 0) (.slice none 0 0)) 33)).alloc (.cells (tellC 0 0 0 false (.slice none 0 0) (.slice none 0 0) (.slice none 0 0)) 33)).heap.size = w.heap.size + 3 by simp)
  have HC := Lib.hid (Get_refR (((w.alloc (.cells (stepC 1 key st (.slice Av nn cc) dead tt) 29)).alloc (.cells (tellC 0 0 0 false (.slice none 0 0) (.slice none 0 0) (.slice none 0 0)) 33)).alloc (.cells (tellC 0 0 0 false (.slice none 0 0) (.slice none 0 0) (.slice none 0 0)) 33)) A cap rs R hR key st HRA.out (by omega))
  have c0 := hB3.cellv 0 rfl
  have c1 := hB3.cellv 1 rfl
  have c2 := hB3.cellv 2 rfl
  have c3 := hB3.cellv 3 rfl
  have c4 := hB3.cellv 4 rfl
  have c5 := hB3.cellv 5 rfl
  obtain ⟨n, hn⟩ : ∃ n, rs.length = n := ⟨_, rfl⟩
  have HN := Lib.hid hn
  rw [hn] at hfew ⊢
  rw [hn] at HC
  clear hO hB3 hB4 hB5 hby hR hA hT hn hnn
  go_enter Try.func32, Try.ntmps32
  obtain ⟨f, hf⟩ : ∃ f, found (verR R key) st = f := ⟨_, rfl⟩
  rw [hf] at HC
  have HF := Lib.hid hf
  go_wp2_with fail
  refine HC.out.mono ?_; rintro e w4 ⟨hget, hO4⟩
  have HO4 := Lib.hid hO4
  have hsz4 := hO4.size
  have hz4 : w.heap.size + 3 ≤ w4.heap.size := by simpa using hsz4
  have B4 := HB4.out.only hO4 (fun h => h)
  have B5 := HB5.out.only hO4 (fun h => h)
  clear hf hO4
  cases f with
  | none =>
    obtain rfl := hget
    have f4 := B5.free 4
    have k4 := B5.cellv 4 rfl
    have f3 := B5.free 3
    have k3 := B5.cellv 3 rfl
    have F5 := Lib.hid ((B5.put 4 (.slice none 0 0)).put 3 (.bool false))
    have F4 := Lib.hid ((B4.far (p := ⟨w.heap.size + 1 + 1, 4, none⟩) (by simp) (.slice none 0 0)).far (p := ⟨w.heap.size + 1 + 1, 3, none⟩) (by simp) (.bool false))
    have FR := Lib.hid (F4.out.row #[.int .i64 0, .int .i64 0, .int .i64 0, .bool false, .slice none 0 0, .slice none 0 0, .slice none 0 0])
    have FO := Lib.hid ((((Only.refl (fun k => k = w.heap.size + 1 ∨ k = w.heap.size + 1 + 1) w4).put (p := ⟨w.heap.size + 1 + 1, 4, none⟩) (.inl (.inr rfl)) (.slice none 0 0)).put (p := ⟨w.heap.size + 1 + 1, 3, none⟩) (.inl (.inr rfl)) (.bool false)).row (b := w.heap.size + 1) (.inl (.inl rfl)) #[.int .i64 0, .int .i64 0, .int .i64 0, .bool false, .slice none 0 0, .slice none 0 0, .slice none 0 0])
    clear B4 B5
    go_wp2_with (first | (refine wpList_load_row rfl 33 (.tmp 6) rfl (w.heap.size + 1 + 1) rfl 33 _ (0, 0) _ F5.out Try.underlying33 rfl info33 ?_) | (refine wpList_store_row rfl 33 (.tmp 4) (.tmp 89) rfl (w.heap.size + 1) #[.int .i64 0, .int .i64 0, .int .i64 0, .bool false, .slice none 0 0, .slice none 0 0, .slice none 0 0] rfl rfl 33 (tellC 0 0 0 false (.slice none 0 0) (.slice none 0 0) (.slice none 0 0)) F4.out info33 rfl (by simp [Value.oneCell']) ?_) | fail)
    have g0 := FR.out.cellv 0 rfl
    have g1 := FR.out.cellv 1 rfl
    have g2 := FR.out.cellv 2 rfl
    have g3 := FR.out.cellv 3 rfl
    have g4 := FR.out.cellv 4 rfl
    have g5 := FR.out.cellv 5 rfl
    have g6 := FR.out.cellv 6 rfl
    have HOF := Lib.hid ((HO.out.trans HO4.out).step FO.out (fun k hk e => by have := HZ3.out; omega))
    refine bodyPost_ret (v := .tuple #[.agg #[.int .i64 0, .int .i64 0, .int .i64 0, .bool false, .slice none 0 0, .slice none 0 0, .slice none 0 0], .slice A n cap]) (by simp [results, Try.results32, go_sem, g0, g1, g2, g3, g4, g5, g6]) rfl ?_
    have HLD := Lib.hid (fun w'' (ho : Only (T33 T _) _ w'') => HA.out w'' (t33_back HOF.out ho))
    have e9 : ansR R ⟨1, key, st, bs, dead, tt⟩ = {} := by simp [ansR, HF.out]
    exact ⟨_, A, cap, rs, by rw [HN.out], HR.out, HOF.out, fun w'' ho => ⟨by rw [e9]; exact tat_plain _ _ _ _ _, HLD.out w'' ho⟩⟩
  | some b =>
    obtain ⟨vb, rfl, hvb⟩ := hget
    obtain ⟨Ab, cb, rfl⟩ := ownsRow_slice hvb
    have HVB := Lib.hid hvb
    clear hvb
    have f4 := B5.free 4
    have k4 := B5.cellv 4 rfl
    have f3 := B5.free 3
    have k3 := B5.cellv 3 rfl
    have F5 := Lib.hid ((B5.put 4 (.slice Ab b.length cb)).put 3 (.bool true))
    have F4 := Lib.hid ((B4.far (p := ⟨w.heap.size + 1 + 1, 4, none⟩) (by simp) (.slice Ab b.length cb)).far (p := ⟨w.heap.size + 1 + 1, 3, none⟩) (by simp) (.bool true))
    have FR := Lib.hid (F4.out.row #[.int .i64 0, .int .i64 0, .int .i64 0, .bool true, .slice Ab b.length cb, .slice none 0 0, .slice none 0 0])
    have FO := Lib.hid ((((Only.refl (fun k => k = w.heap.size + 1 ∨ k = w.heap.size + 1 + 1) w4).put (p := ⟨w.heap.size + 1 + 1, 4, none⟩) (.inl (.inr rfl)) (.slice Ab b.length cb)).put (p := ⟨w.heap.size + 1 + 1, 3, none⟩) (.inl (.inr rfl)) (.bool true)).row (b := w.heap.size + 1) (.inl (.inl rfl)) #[.int .i64 0, .int .i64 0, .int .i64 0, .bool true, .slice Ab b.length cb, .slice none 0 0, .slice none 0 0])
    clear B4 B5
    go_wp2_with (first | (refine wpList_load_row rfl 33 (.tmp 6) rfl (w.heap.size + 1 + 1) rfl 33 _ (0, 0) _ F5.out Try.underlying33 rfl info33 ?_) | (refine wpList_store_row rfl 33 (.tmp 4) (.tmp 89) rfl (w.heap.size + 1) #[.int .i64 0, .int .i64 0, .int .i64 0, .bool true, .slice Ab b.length cb, .slice none 0 0, .slice none 0 0] rfl rfl 33 (tellC 0 0 0 false (.slice none 0 0) (.slice none 0 0) (.slice none 0 0)) F4.out info33 rfl (by simp [Value.oneCell']) ?_) | fail)
    have g0 := FR.out.cellv 0 rfl
    have g1 := FR.out.cellv 1 rfl
    have g2 := FR.out.cellv 2 rfl
    have g3 := FR.out.cellv 3 rfl
    have g4 := FR.out.cellv 4 rfl
    have g5 := FR.out.cellv 5 rfl
    have g6 := FR.out.cellv 6 rfl
    have HOF := Lib.hid ((HO.out.trans HO4.out).step FO.out (fun k hk e => by have := HZ3.out; omega))
    refine bodyPost_ret (v := .tuple #[.agg #[.int .i64 0, .int .i64 0, .int .i64 0, .bool true, .slice Ab b.length cb, .slice none 0 0, .slice none 0 0], .slice A n cap]) (by simp [results, Try.results32, go_sem, g0, g1, g2, g3, g4, g5, g6]) rfl ?_
    have HLD := Lib.hid (fun w'' (ho : Only (T33 T _) _ w'') => HA.out w'' (t33_back HOF.out ho))
    have e9 : ansR R ⟨1, key, st, bs, dead, tt⟩ = { b := b, is := true } := by simp [ansR, HF.out]
    have hlow : ∀ g, w.heap.size + 3 ≤ g → (¬ (g = w.heap.size + 1 ∨ g = w.heap.size + 1 + 1)) ∧ ¬ T g := fun g hg => ⟨by omega, fun ht => by have := HT.out g ht; omega⟩
    exact ⟨_, A, cap, rs, by rw [HN.out], HR.out, HOF.out, fun w'' ho => ⟨by rw [e9]; exact ⟨_, _, _, rfl, ((HVB.out.only FO.out (fun g hg => (hlow g (by have := (ownsRow_lt HVB.out hg).1; have := HZ3.out; omega)).1)).only ho (t33_own (ownsRow_only HVB.out FO.out (fun g hg => (hlow g (by have := (ownsRow_lt HVB.out hg).1; have := HZ3.out; omega)).1)) (by decide) (fun g hg => (hlow g (by have := (ownsRow_lt HVB.out hg).1; have := HZ3.out; omega)).2))).bytesV, listAt_nil _ _ _, listAt_nil _ _ _⟩, HLD.out w'' ho⟩⟩
set_option maxRecDepth 100000 in
set_option maxHeartbeats 8000000 in
theorem want33_4 (w : World) (T : Nat → Prop) (A : Option Addr) (cap : Nat) (rs : List VRow) (R : List KV) (x : Stp) (Av : Option Addr) (cc : Nat) (hT : ∀ k, T k → k < w.heap.size) (hR : RGood rs R) (hA : ∀ w', Only (T33 T w) w w' → RAt w' A rs) (hfew : rs.length < 2513169434843)
    (hk : x.kind = 4) (hkey : x.key.size ≤ maxLen) (hby : BytesAt w Av x.bs) :
    Calls Try.prog 32 #[.slice A rs.length cap, .agg (stepC x.kind x.key x.st (.slice Av x.bs.length cc) x.dead x.tt)] w (WantP33 T R x w) := by
  obtain ⟨kind, key, st, bs, dead, tt⟩ := x
  simp only at hk hkey hby ⊢
  subst hk
  obtain ⟨nn, hnn⟩ : ∃ nn, bs.length = nn := ⟨_, rfl⟩
  rw [hnn]
  have hO : Only NoneOf w (((w.alloc (.cells (stepC 4 key st (.slice Av nn cc) dead tt) 29)).alloc (.cells (tellC 0 0 0 false (.slice none 0 0) (.slice none 0 0) (.slice none 0 0)) 33)).alloc (.cells (tellC 0 0 0 false (.slice none 0 0) (.slice none 0 0) (.slice none 0 0)) 33)) := (((Only.refl _ _).alloc _).alloc _).alloc _
  have hB3 := ((Blk.new w 29 (stepC 4 key st (.slice Av nn cc) dead tt)).alloc (.cells (tellC 0 0 0 false (.slice none 0 0) (.slice none 0 0) (.slice none 0 0)) 33)).alloc (.cells (tellC 0 0 0 false (.slice none 0 0) (.slice none 0 0) (.slice none 0 0)) 33)
  have hB4 := (Blk.new' (w.alloc (.cells (stepC 4 key st (.slice Av nn cc) dead tt) 29)) 33 (tellC 0 0 0 false (.slice none 0 0) (.slice none 0 0) (.slice none 0 0)) (n := w.heap.size + 1) (by simp)).alloc (.cells (tellC 0 0 0 false (.slice none 0 0) (.slice none 0 0) (.slice none 0 0)) 33)
  have hB5 := Blk.new' ((w.alloc (.cells (stepC 4 key st (.slice Av nn cc) dead tt) 29)).alloc (.cells (tellC 0 0 0 false (.slice none 0 0) (.slice none 0 0) (.slice none 0 0)) 33)) 33 (tellC 0 0 0 false (.slice none 0 0) (.slice none 0 0) (.slice none 0 0)) (n := w.heap.size + 1 + 1) (by simp)
  have HO := Lib.hid hO
  have HA := Lib.hid hA
  have HT := Lib.hid hT
  have HR := Lib.hid hR
  have HB4 := Lib.hid hB4
  have HB5 := Lib.hid hB5
  have HBY := Lib.hid (hby.keep hO)
  have HNN := Lib.hid hnn
  have HRA := Lib.hid ((hA w (Only.refl _ _)).keep hO)
  have HZ3 := Lib.hid (show (((w.alloc (.cells (stepC 4 key st (.slice Av nn cc) dead tt) 29)).alloc (.cells (tellC 0 0 0 false (.slice none 0 0) (.slice none 0 0) (.slice none 0 0)) 33)).alloc (.cells (tellC 0 0 0 false (.slice none 0 0) (.slice none 0 0) (.slice none 0 0)) 33)).heap.size = w.heap.size + 3 by simp)
  have HC := Lib.hid (Vacuum_ref (((w.alloc (.cells (stepC 4 key st (.slice Av nn cc) dead tt) 29)).alloc (.cells (tellC 0 0 0 false (.slice none 0 0) (.slice none 0 0) (.slice none 0 0)) 33)).alloc (.cells (tellC 0 0 0 false (.slice none 0 0) (.slice none 0 0) (.slice none 0 0)) 33)) A cap rs HRA.out (by omega) st)
  have c0 := hB3.cellv 0 rfl
  have c1 := hB3.cellv 1 rfl
  have c2 := hB3.cellv 2 rfl
  have c3 := hB3.cellv 3 rfl
  have c4 := hB3.cellv 4 rfl
  have c5 := hB3.cellv 5 rfl
  obtain ⟨n, hn⟩ : ∃ n, rs.length = n := ⟨_, rfl⟩
  have HN := Lib.hid hn
  rw [hn] at hfew ⊢
  rw [hn] at HC
  clear hO hB3 hB4 hB5 hby hR hA hT hn hnn
  go_enter Try.func32, Try.ntmps32
  have HVAC := Lib.hid (HR.out.vac st)
  obtain ⟨fs, hfs⟩ : ∃ fs, rs.filter (kRow rs st) = fs := ⟨_, rfl⟩
  have HSUB := Lib.hid (show ∀ r ∈ fs, r ∈ rs from fun r hr => by rw [← hfs] at hr; exact (List.mem_filter.1 hr).1)
  have hc := HC.out
  unfold VacRef at hc
  rw [hfs, HN.out] at hc
  rw [hfs] at HVAC
  have HLEN := Lib.hid (show ((R.length - (vacR R st).length : Nat) : Int) = ((n - fs.length : Nat) : Int) by rw [← HVAC.out.len, ← HR.out.len, HN.out])
  obtain ⟨gn, hgn⟩ : ∃ gn : Int, ((n - fs.length : Nat) : Int) = gn := ⟨_, rfl⟩
  rw [hgn] at hc HLEN
  replace HC := Lib.hid hc
  clear hc hfs hgn
  go_wp2_with fail
  refine HC.out.mono ?_; rintro e w4 ⟨vq, rfl, hown, hO4⟩
  obtain ⟨Aq, cq, rfl⟩ := ownsRow_slice hown
  have HOWN := Lib.hid hown
  have HO4 := Lib.hid hO4
  have hsz4 := hO4.size
  have hz4 : w.heap.size + 3 ≤ w4.heap.size := by simpa using hsz4
  have B4 := HB4.out.only hO4 (fun h => h)
  have B5 := HB5.out.only hO4 (fun h => h)
  clear hown hO4
  have f1 := B5.free 1
  have k1 := B5.cellv 1 rfl
  have F5 := Lib.hid (B5.put 1 (.int .i64 gn))
  have F4 := Lib.hid (B4.far (p := ⟨w.heap.size + 1 + 1, 1, none⟩) (by simp) (.int .i64 gn))
  have FR := Lib.hid (F4.out.row #[.int .i64 0, .int .i64 gn, .int .i64 0, .bool false, .slice none 0 0, .slice none 0 0, .slice none 0 0])
  have FO := Lib.hid (((Only.refl (fun k => k = w.heap.size + 1 ∨ k = w.heap.size + 1 + 1) w4).put (p := ⟨w.heap.size + 1 + 1, 1, none⟩) (.inl (.inr rfl)) (.int .i64 gn)).row (b := w.heap.size + 1) (.inl (.inl rfl)) #[.int .i64 0, .int .i64 gn, .int .i64 0, .bool false, .slice none 0 0, .slice none 0 0, .slice none 0 0])
  clear B4 B5
  go_wp2_with (first | (refine wpList_load_row rfl 33 (.tmp 6) rfl (w.heap.size + 1 + 1) rfl 33 _ (0, 0) _ F5.out Try.underlying33 rfl info33 ?_) | (refine wpList_store_row rfl 33 (.tmp 4) (.tmp 89) rfl (w.heap.size + 1) #[.int .i64 0, .int .i64 gn, .int .i64 0, .bool false, .slice none 0 0, .slice none 0 0, .slice none 0 0] rfl rfl 33 (tellC 0 0 0 false (.slice none 0 0) (.slice none 0 0) (.slice none 0 0)) F4.out info33 rfl (by simp [Value.oneCell']) ?_) | fail)
  have g0 := FR.out.cellv 0 rfl
  have g1 := FR.out.cellv 1 rfl
  have g2 := FR.out.cellv 2 rfl
  have g3 := FR.out.cellv 3 rfl
  have g4 := FR.out.cellv 4 rfl
  have g5 := FR.out.cellv 5 rfl
  have g6 := FR.out.cellv 6 rfl
  have HOF := Lib.hid ((HO.out.trans HO4.out).step FO.out (fun k hk e => by have := HZ3.out; omega))
  refine bodyPost_ret (v := .tuple #[.agg #[.int .i64 0, .int .i64 gn, .int .i64 0, .bool false, .slice none 0 0, .slice none 0 0, .slice none 0 0], .slice Aq fs.length cq]) (by simp [results, Try.results32, go_sem, g0, g1, g2, g3, g4, g5, g6]) rfl ?_
  have HLD := Lib.hid (fun w'' (ho : Only (T33 T _) _ w'') => HA.out w'' (t33_back HOF.out ho))
  have hlow : ∀ g, w.heap.size + 3 ≤ g → (¬ (g = w.heap.size + 1 ∨ g = w.heap.size + 1 + 1)) ∧ ¬ T g := fun g hg => ⟨by omega, fun ht => by have := HT.out g ht; omega⟩
  have e9 : ansR R ⟨4, key, st, bs, dead, tt⟩ = { n := gn } := by
    show ({ n := ((R.length - (vacR R st).length : Nat) : Int) } : An) = _
    rw [HLEN.out]
  refine ⟨_, Aq, cq, fs, rfl, HVAC.out, HOF.out, fun w'' ho => ⟨by rw [e9]; exact tat_plain _ _ _ _ _, ?_⟩⟩
  obtain ⟨A9, c9, hv9, hr9⟩ := rat_own (ownsRow_only (ownsRow_only HOWN.out FO.out (fun g hg => (hlow g (by have := (ownsRow_lt HOWN.out hg).1; have := HZ3.out; omega)).1)) ho (t33_own (ownsRow_only HOWN.out FO.out (fun g hg => (hlow g (by have := (ownsRow_lt HOWN.out hg).1; have := HZ3.out; omega)).1)) (by decide) (fun g hg => (hlow g (by have := (ownsRow_lt HOWN.out hg).1; have := HZ3.out; omega)).2))) (fun r hr => rat_val (HLD.out w'' ho) (HSUB.out r hr))
  injection hv9 with e1 _ _
  subst e1
  exact hr9
set_option maxRecDepth 100000 in
set_option maxHeartbeats 8000000 in
theorem want33_0 (w : World) (T : Nat → Prop) (A : Option Addr) (cap : Nat) (rs : List VRow) (R : List KV) (x : Stp) (Av : Option Addr) (cc : Nat) (hT : ∀ k, T k → k < w.heap.size) (hR : RGood rs R) (hA : ∀ w', Only (T33 T w) w w' → RAt w' A rs) (hfew : rs.length < 2513169434843)
    (hk : x.kind = 0) (hkey : x.key.size ≤ maxLen) (hby : BytesAt w Av x.bs) :
    Calls Try.prog 32 #[.slice A rs.length cap, .agg (stepC x.kind x.key x.st (.slice Av x.bs.length cc) x.dead x.tt)] w (WantP33 T R x w) := by
  obtain ⟨kind, key, st, bs, dead, tt⟩ := x
  simp only at hk hkey hby ⊢
  subst hk
  obtain ⟨nn, hnn⟩ : ∃ nn, bs.length = nn := ⟨_, rfl⟩
  rw [hnn]
  have hO : Only NoneOf w (((w.alloc (.cells (stepC 0 key st (.slice Av nn cc) dead tt) 29)).alloc (.cells (tellC 0 0 0 false (.slice none 0 0) (.slice none 0 0) (.slice none 0 0)) 33)).alloc (.cells (tellC 0 0 0 false (.slice none 0 0) (.slice none 0 0) (.slice none 0 0)) 33)) := (((Only.refl _ _).alloc _).alloc _).alloc _
  have hB3 := ((Blk.new w 29 (stepC 0 key st (.slice Av nn cc) dead tt)).alloc (.cells (tellC 0 0 0 false (.slice none 0 0) (.slice none 0 0) (.slice none 0 0)) 33)).alloc (.cells (tellC 0 0 0 false (.slice none 0 0) (.slice none 0 0) (.slice none 0 0)) 33)
  have hB4 := (Blk.new' (w.alloc (.cells (stepC 0 key st (.slice Av nn cc) dead tt) 29)) 33 (tellC 0 0 0 false (.slice none 0 0) (.slice none 0 0) (.slice none 0 0)) (n := w.heap.size + 1) (by simp)).alloc (.cells (tellC 0 0 0 false (.slice none 0 0) (.slice none 0 0) (.slice none 0 0)) 33)
  have hB5 := Blk.new' ((w.alloc (.cells (stepC 0 key st (.slice Av nn cc) dead tt) 29)).alloc (.cells (tellC 0 0 0 false (.slice none 0 0) (.slice none 0 0) (.slice none 0 0)) 33)) 33 (tellC 0 0 0 false (.slice none 0 0) (.slice none 0 0) (.slice none 0 0)) (n := w.heap.size + 1 + 1) (by simp)
  have HO := Lib.hid hO
  have HA := Lib.hid hA
  have HT := Lib.hid hT
  have HR := Lib.hid hR
  have HB4 := Lib.hid hB4
  have HB5 := Lib.hid hB5
  have HBY := Lib.hid (hby.keep hO)
  have HNN := Lib.hid hnn
  have HRA := Lib.hid ((hA w (Only.refl _ _)).keep hO)
  have HZ3 := Lib.hid (show (((w.alloc (.cells (stepC 0 key st (.slice Av nn cc) dead tt) 29)).alloc (.cells (tellC 0 0 0 false (.slice none 0 0) (.slice none 0 0) (.slice none 0 0)) 33)).alloc (.cells (tellC 0 0 0 false (.slice none 0 0) (.slice none 0 0) (.slice none 0 0)) 33)).heap.size = w.heap.size + 3 by simp)
  have HC := Lib.hid (Apply_ref (((w.alloc (.cells (stepC 0 key st (.slice Av nn cc) dead tt) 29)).alloc (.cells (tellC 0 0 0 false (.slice none 0 0) (.slice none 0 0) (.slice none 0 0)) 33)).alloc (.cells (tellC 0 0 0 false (.slice none 0 0) (.slice none 0 0) (.slice none 0 0)) 33)) A cap rs R hR HRA.out (by omega) key st bs dead Av nn cc hnn HBY.out)
  have HAFT := Lib.hid (hR.good.after key ⟨st, bs, dead⟩)
  have c0 := hB3.cellv 0 rfl
  have c1 := hB3.cellv 1 rfl
  have c2 := hB3.cellv 2 rfl
  have c3 := hB3.cellv 3 rfl
  have c4 := hB3.cellv 4 rfl
  have c5 := hB3.cellv 5 rfl
  obtain ⟨n, hn⟩ : ∃ n, rs.length = n := ⟨_, rfl⟩
  have HN := Lib.hid hn
  rw [hn] at hfew ⊢
  rw [hn] at HC
  clear hO hB3 hB4 hB5 hby hR hA hT hn hnn
  go_enter Try.func32, Try.ntmps32
  obtain ⟨cd, hcd⟩ : ∃ cd, codeR R key ⟨st, bs, dead⟩ = cd := ⟨_, rfl⟩
  have hc := HC.out
  unfold ApRef at hc
  rw [hcd, HN.out] at hc
  have HCD := Lib.hid hcd
  replace HC := Lib.hid hc
  clear hc hcd
  have e9 : ansR R ⟨0, key, st, bs, dead, tt⟩ = { e := cd } := by simp [ansR, HCD.out]
  have HE9 := Lib.hid e9
  clear e9
  go_wp2_with fail
  refine HC.out.mono ?_; rintro e w4 ⟨hO4, hcase⟩
  have HO4 := Lib.hid hO4
  have hsz4 := hO4.size
  have hz4 : w.heap.size + 3 ≤ w4.heap.size := by simpa using hsz4
  have B4 := HB4.out.only hO4 (fun h => h)
  have B5 := HB5.out.only hO4 (fun h => h)
  clear hO4
  rcases hcase with ⟨hne, rfl⟩ | ⟨hze, vq, r, rfl, hrp, hrb, hown⟩
  · have HG9 := Lib.hid (show stepR R ⟨0, key, st, bs, dead, tt⟩ = R by show afterR R key ⟨st, bs, dead⟩ = R; unfold afterR; rw [HCD.out, if_neg hne])
    clear hne
    have f0 := B5.free 0
    have k0 := B5.cellv 0 rfl
    have F5 := Lib.hid (B5.put 0 (.int .i64 cd))
    have F4 := Lib.hid (B4.far (p := ⟨w.heap.size + 1 + 1, 0, none⟩) (by simp) (.int .i64 cd))
    have FR := Lib.hid (F4.out.row #[.int .i64 cd, .int .i64 0, .int .i64 0, .bool false, .slice none 0 0, .slice none 0 0, .slice none 0 0])
    have FO := Lib.hid (((Only.refl (fun k => k = w.heap.size + 1 ∨ k = w.heap.size + 1 + 1) w4).put (p := ⟨w.heap.size + 1 + 1, 0, none⟩) (.inl (.inr rfl)) (.int .i64 cd)).row (b := w.heap.size + 1) (.inl (.inl rfl)) #[.int .i64 cd, .int .i64 0, .int .i64 0, .bool false, .slice none 0 0, .slice none 0 0, .slice none 0 0])
    clear B4 B5
    go_wp2_with (first | (refine wpList_load_row rfl 33 (.tmp 6) rfl (w.heap.size + 1 + 1) rfl 33 _ (0, 0) _ F5.out Try.underlying33 rfl info33 ?_) | (refine wpList_store_row rfl 33 (.tmp 4) (.tmp 89) rfl (w.heap.size + 1) #[.int .i64 cd, .int .i64 0, .int .i64 0, .bool false, .slice none 0 0, .slice none 0 0, .slice none 0 0] rfl rfl 33 (tellC 0 0 0 false (.slice none 0 0) (.slice none 0 0) (.slice none 0 0)) F4.out info33 rfl (by simp [Value.oneCell']) ?_) | fail)
    have g0 := FR.out.cellv 0 rfl
    have g1 := FR.out.cellv 1 rfl
    have g2 := FR.out.cellv 2 rfl
    have g3 := FR.out.cellv 3 rfl
    have g4 := FR.out.cellv 4 rfl
    have g5 := FR.out.cellv 5 rfl
    have g6 := FR.out.cellv 6 rfl
    have HOF := Lib.hid ((HO.out.trans HO4.out).step FO.out (fun k hk e => by have := HZ3.out; omega))
    refine bodyPost_ret (v := .tuple #[.agg #[.int .i64 cd, .int .i64 0, .int .i64 0, .bool false, .slice none 0 0, .slice none 0 0, .slice none 0 0], .slice A n cap]) (by simp [results, Try.results32, go_sem, g0, g1, g2, g3, g4, g5, g6]) rfl ?_
    have HLD := Lib.hid (fun w'' (ho : Only (T33 T _) _ w'') => HA.out w'' (t33_back HOF.out ho))
    exact ⟨_, A, cap, rs, by rw [HN.out], (by rw [HG9.out]; exact HR.out), HOF.out, fun w'' ho => ⟨by rw [HE9.out]; exact tat_plain _ _ _ _ _, HLD.out w'' ho⟩⟩
  · subst hze
    have HG9 := Lib.hid (show stepR R ⟨0, key, st, bs, dead, tt⟩ = R ++ [(key, ⟨st, bs, dead⟩)] by show afterR R key ⟨st, bs, dead⟩ = _; unfold afterR; rw [HCD.out, if_pos rfl])
    have HAF := Lib.hid (show GoodR (R ++ [(key, ⟨st, bs, dead⟩)]) by have := HAFT.out; unfold afterR at this; rw [HCD.out, if_pos rfl] at this; exact this)
    obtain ⟨Aq, cq, rfl⟩ := ownsRow_slice hown
    have HOWN := Lib.hid hown
    have HRP := Lib.hid hrp
    have HRB := Lib.hid hrb
    clear hown hrp hrb
    have f0 := B5.free 0
    have k0 := B5.cellv 0 rfl
    have F5 := Lib.hid (B5.put 0 (.int .i64 0))
    have F4 := Lib.hid (B4.far (p := ⟨w.heap.size + 1 + 1, 0, none⟩) (by simp) (.int .i64 0))
    have FR := Lib.hid (F4.out.row #[.int .i64 0, .int .i64 0, .int .i64 0, .bool false, .slice none 0 0, .slice none 0 0, .slice none 0 0])
    have FO := Lib.hid (((Only.refl (fun k => k = w.heap.size + 1 ∨ k = w.heap.size + 1 + 1) w4).put (p := ⟨w.heap.size + 1 + 1, 0, none⟩) (.inl (.inr rfl)) (.int .i64 0)).row (b := w.heap.size + 1) (.inl (.inl rfl)) #[.int .i64 0, .int .i64 0, .int .i64 0, .bool false, .slice none 0 0, .slice none 0 0, .slice none 0 0])
    clear B4 B5
    go_wp2_with (first | (refine wpList_load_row rfl 33 (.tmp 6) rfl (w.heap.size + 1 + 1) rfl 33 _ (0, 0) _ F5.out Try.underlying33 rfl info33 ?_) | (refine wpList_store_row rfl 33 (.tmp 4) (.tmp 89) rfl (w.heap.size + 1) #[.int .i64 0, .int .i64 0, .int .i64 0, .bool false, .slice none 0 0, .slice none 0 0, .slice none 0 0] rfl rfl 33 (tellC 0 0 0 false (.slice none 0 0) (.slice none 0 0) (.slice none 0 0)) F4.out info33 rfl (by simp [Value.oneCell']) ?_) | fail)
    have g0 := FR.out.cellv 0 rfl
    have g1 := FR.out.cellv 1 rfl
    have g2 := FR.out.cellv 2 rfl
    have g3 := FR.out.cellv 3 rfl
    have g4 := FR.out.cellv 4 rfl
    have g5 := FR.out.cellv 5 rfl
    have g6 := FR.out.cellv 6 rfl
    have HOF := Lib.hid ((HO.out.trans HO4.out).step FO.out (fun k hk e => by have := HZ3.out; omega))
    refine bodyPost_ret (v := .tuple #[.agg #[.int .i64 0, .int .i64 0, .int .i64 0, .bool false, .slice none 0 0, .slice none 0 0, .slice none 0 0], .slice Aq (n + 1) cq]) (by simp [results, Try.results32, go_sem, g0, g1, g2, g3, g4, g5, g6]) rfl ?_
    have HLD := Lib.hid (fun w'' (ho : Only (T33 T _) _ w'') => HA.out w'' (t33_back HOF.out ho))
    have hlow : ∀ g, w.heap.size + 3 ≤ g → (¬ (g = w.heap.size + 1 ∨ g = w.heap.size + 1 + 1)) ∧ ¬ T g := fun g hg => ⟨by omega, fun ht => by have := HT.out g ht; omega⟩
    refine ⟨_, Aq, cq, rs ++ [r], by rw [List.length_append, HN.out]; rfl, by rw [HG9.out]; exact ⟨by rw [List.map_append, HR.out.eq]; simp [HRP.out], HAF.out⟩, HOF.out, fun w'' ho => ⟨by rw [HE9.out]; exact tat_plain _ _ _ _ _, ?_⟩⟩
    have ho9 : w''.ownsRow (w.heap.size + 3) 27 4 (.slice Aq (n + 1) cq) (rs ++ [r]).length (vflat (rs ++ [r])) := by
      rw [List.length_append, HN.out, ← HZ3.out]
      exact ownsRow_only (ownsRow_only HOWN.out FO.out (fun g hg => (hlow g (by have := (ownsRow_lt HOWN.out hg).1; have := HZ3.out; omega)).1)) ho (t33_own (ownsRow_only HOWN.out FO.out (fun g hg => (hlow g (by have := (ownsRow_lt HOWN.out hg).1; have := HZ3.out; omega)).1)) (by decide) (fun g hg => (hlow g (by have := (ownsRow_lt HOWN.out hg).1; have := HZ3.out; omega)).2))
    obtain ⟨A9, c9, hv9, hr9⟩ := rat_own ho9 (fun q hq => by
      rcases List.mem_append.1 hq with hq | hq
      · exact rat_val (HLD.out w'' ho) hq
      · obtain rfl : q = r := by simpa using hq
        have hrp := HRP.out
        have e1 : q.key = key := congrArg (·.1) hrp
        have e2 : q.bs = bs := congrArg (fun p : KV => p.2.bs) hrp
        obtain ⟨Ab, cb, hv, hb⟩ := ((HRB.out.only FO.out (fun g hg => (hlow g (by have := (ownsRow_lt HRB.out hg).1; have := HZ3.out; omega)).1)).only ho (t33_own (ownsRow_only HRB.out FO.out (fun g hg => (hlow g (by have := (ownsRow_lt HRB.out hg).1; have := HZ3.out; omega)).1)) (by decide) (fun g hg => (hlow g (by have := (ownsRow_lt HRB.out hg).1; have := HZ3.out; omega)).2))).at
        exact ⟨Ab, cb, by rw [hv, e2], by rw [e2]; exact hb, by rw [e1]; exact hkey⟩)
    injection hv9 with e1 _ _
    subst e1
    exact hr9
set_option maxRecDepth 100000 in
set_option maxHeartbeats 8000000 in
theorem want33_other (w : World) (T : Nat → Prop) (A : Option Addr) (cap : Nat) (rs : List VRow) (R : List KV) (x : Stp) (Av : Option Addr) (cc : Nat) (hT : ∀ k, T k → k < w.heap.size) (hR : RGood rs R) (hA : ∀ w', Only (T33 T w) w w' → RAt w' A rs) (_ : rs.length < 2513169434843)
    (hk : x.kind ≠ 0 ∧ x.kind ≠ 1 ∧ x.kind ≠ 2 ∧ x.kind ≠ 3 ∧ x.kind ≠ 4 ∧ x.kind ≠ 5 ∧ x.kind ≠ 6 ∧ x.kind ≠ 7) (hkey : x.key.size ≤ maxLen) (hby : BytesAt w Av x.bs) :
    Calls Try.prog 32 #[.slice A rs.length cap, .agg (stepC x.kind x.key x.st (.slice Av x.bs.length cc) x.dead x.tt)] w (WantP33 T R x w) := by
  obtain ⟨kind, key, st, bs, dead, tt⟩ := x
  simp only at hk hkey hby ⊢
  obtain ⟨k0, k1, k2, k3, k4, k5, k6, k7⟩ := hk
  have q0 : (kind == 0) = false := beq_eq_false_iff_ne.2 k0
  have q1 : (kind == 1) = false := beq_eq_false_iff_ne.2 k1
  have q2 : (kind == 2) = false := beq_eq_false_iff_ne.2 k2
  have q3 : (kind == 3) = false := beq_eq_false_iff_ne.2 k3
  have q4 : (kind == 4) = false := beq_eq_false_iff_ne.2 k4
  have q5 : (kind == 5) = false := beq_eq_false_iff_ne.2 k5
  have q6 : (kind == 6) = false := beq_eq_false_iff_ne.2 k6
  have q7 : (kind == 7) = false := beq_eq_false_iff_ne.2 k7
  have e1 : ansR R ⟨kind, key, st, bs, dead, tt⟩ = {} := by simp [ansR, k0, k1, k2, k3, k4, k5, k6, k7]
  have e2 : stepR R ⟨kind, key, st, bs, dead, tt⟩ = R := by simp [stepR, k0, k4]
  have HE1 := Lib.hid e1
  have HE2 := Lib.hid e2
  clear k0 k1 k2 k3 k4 k5 k6 k7 e1 e2
  obtain ⟨nn, hnn⟩ : ∃ nn, bs.length = nn := ⟨_, rfl⟩
  rw [hnn]
  have hO : Only NoneOf w (((w.alloc (.cells (stepC kind key st (.slice Av nn cc) dead tt) 29)).alloc (.cells (tellC 0 0 0 false (.slice none 0 0) (.slice none 0 0) (.slice none 0 0)) 33)).alloc (.cells (tellC 0 0 0 false (.slice none 0 0) (.slice none 0 0) (.slice none 0 0)) 33)) := (((Only.refl _ _).alloc _).alloc _).alloc _
  have hB3 := ((Blk.new w 29 (stepC kind key st (.slice Av nn cc) dead tt)).alloc (.cells (tellC 0 0 0 false (.slice none 0 0) (.slice none 0 0) (.slice none 0 0)) 33)).alloc (.cells (tellC 0 0 0 false (.slice none 0 0) (.slice none 0 0) (.slice none 0 0)) 33)
  have hB4 := (Blk.new' (w.alloc (.cells (stepC kind key st (.slice Av nn cc) dead tt) 29)) 33 (tellC 0 0 0 false (.slice none 0 0) (.slice none 0 0) (.slice none 0 0)) (n := w.heap.size + 1) (by simp)).alloc (.cells (tellC 0 0 0 false (.slice none 0 0) (.slice none 0 0) (.slice none 0 0)) 33)
  have hB5 := Blk.new' ((w.alloc (.cells (stepC kind key st (.slice Av nn cc) dead tt) 29)).alloc (.cells (tellC 0 0 0 false (.slice none 0 0) (.slice none 0 0) (.slice none 0 0)) 33)) 33 (tellC 0 0 0 false (.slice none 0 0) (.slice none 0 0) (.slice none 0 0)) (n := w.heap.size + 1 + 1) (by simp)
  have HO := Lib.hid hO
  have HA := Lib.hid hA
  have HT := Lib.hid hT
  have HR := Lib.hid hR
  have HB4 := Lib.hid hB4
  have HB5 := Lib.hid hB5
  have HBY := Lib.hid (hby.keep hO)
  have HNN := Lib.hid hnn
  have HRA := Lib.hid ((hA w (Only.refl _ _)).keep hO)
  have HZ3 := Lib.hid (show (((w.alloc (.cells (stepC kind key st (.slice Av nn cc) dead tt) 29)).alloc (.cells (tellC 0 0 0 false (.slice none 0 0) (.slice none 0 0) (.slice none 0 0)) 33)).alloc (.cells (tellC 0 0 0 false (.slice none 0 0) (.slice none 0 0) (.slice none 0 0)) 33)).heap.size = w.heap.size + 3 by simp)
  have c0 := hB3.cellv 0 rfl
  have c1 := hB3.cellv 1 rfl
  have c2 := hB3.cellv 2 rfl
  have c3 := hB3.cellv 3 rfl
  have c4 := hB3.cellv 4 rfl
  have c5 := hB3.cellv 5 rfl
  obtain ⟨n, hn⟩ : ∃ n, rs.length = n := ⟨_, rfl⟩
  have HN := Lib.hid hn
  rw [hn]
  clear hO hB3 hB4 hB5 hby hR hA hT hn hnn
  go_enter Try.func32, Try.ntmps32
  have B4 := HB4.out
  have B5 := HB5.out
  have F5 := Lib.hid B5
  have F4 := Lib.hid B4
  have FR := Lib.hid (F4.out.row #[.int .i64 0, .int .i64 0, .int .i64 0, .bool false, .slice none 0 0, .slice none 0 0, .slice none 0 0])
  have FO := Lib.hid ((Only.refl (fun k => k = w.heap.size + 1 ∨ k = w.heap.size + 1 + 1) (((w.alloc (.cells (stepC kind key st (.slice Av nn cc) dead tt) 29)).alloc (.cells (tellC 0 0 0 false (.slice none 0 0) (.slice none 0 0) (.slice none 0 0)) 33)).alloc (.cells (tellC 0 0 0 false (.slice none 0 0) (.slice none 0 0) (.slice none 0 0)) 33))).row (b := w.heap.size + 1) (.inl (.inl rfl)) #[.int .i64 0, .int .i64 0, .int .i64 0, .bool false, .slice none 0 0, .slice none 0 0, .slice none 0 0])
  clear B4 B5
  go_wp2_with (first | (refine wpList_load_row rfl 33 (.tmp 6) rfl (w.heap.size + 1 + 1) rfl 33 _ (0, 0) _ F5.out Try.underlying33 rfl info33 ?_) | (refine wpList_store_row rfl 33 (.tmp 4) (.tmp 89) rfl (w.heap.size + 1) #[.int .i64 0, .int .i64 0, .int .i64 0, .bool false, .slice none 0 0, .slice none 0 0, .slice none 0 0] rfl rfl 33 (tellC 0 0 0 false (.slice none 0 0) (.slice none 0 0) (.slice none 0 0)) F4.out info33 rfl (by simp [Value.oneCell']) ?_) | fail)
  have g0 := FR.out.cellv 0 rfl
  have g1 := FR.out.cellv 1 rfl
  have g2 := FR.out.cellv 2 rfl
  have g3 := FR.out.cellv 3 rfl
  have g4 := FR.out.cellv 4 rfl
  have g5 := FR.out.cellv 5 rfl
  have g6 := FR.out.cellv 6 rfl
  have HOF := Lib.hid (HO.out.step FO.out (fun k hk e => by omega))
  refine bodyPost_ret (v := .tuple #[.agg #[.int .i64 0, .int .i64 0, .int .i64 0, .bool false, .slice none 0 0, .slice none 0 0, .slice none 0 0], .slice A n cap]) (by simp [results, Try.results32, go_sem, g0, g1, g2, g3, g4, g5, g6]) rfl ?_
  have HLD := Lib.hid (fun w'' (ho : Only (T33 T _) _ w'') => HA.out w'' (t33_back HOF.out ho))
  exact ⟨_, A, cap, rs, by rw [HN.out], (by rw [HE2.out]; exact HR.out), HOF.out, fun w'' ho => ⟨by rw [HE1.out]; exact tat_plain _ _ _ _ _, HLD.out w'' ho⟩⟩

theorem want33_is (w : World) (T : Nat → Prop) (A : Option Addr) (cap : Nat) (rs : List VRow) (R : List KV) (x : Stp) (Av : Option Addr) (cc : Nat) (hT : ∀ k, T k → k < w.heap.size) (hR : RGood rs R) (hA : ∀ w', Only (T33 T w) w w' → RAt w' A rs) (hfew : rs.length < 2513169434843)
    (hkey : x.key.size ≤ maxLen) (hby : BytesAt w Av x.bs) :
    Calls Try.prog 32 #[.slice A rs.length cap, .agg (stepC x.kind x.key x.st (.slice Av x.bs.length cc) x.dead x.tt)] w (WantP33 T R x w) := by
  by_cases k0 : x.kind = 0
  · exact want33_0 w T A cap rs R x Av cc hT hR hA hfew k0 hkey hby
  by_cases k1 : x.kind = 1
  · exact want33_1 w T A cap rs R x Av cc hT hR hA hfew k1 hkey hby
  by_cases k2 : x.kind = 2
  · exact want33_2 w T A cap rs R x Av cc hT hR hA hfew k2 hkey hby
  by_cases k3 : x.kind = 3
  · exact want33_3 w T A cap rs R x Av cc hT hR hA hfew k3 hkey hby
  by_cases k4 : x.kind = 4
  · exact want33_4 w T A cap rs R x Av cc hT hR hA hfew k4 hkey hby
  by_cases k5 : x.kind = 5
  · exact want33_5 w T A cap rs R x Av cc hT hR hA hfew k5 hkey hby
  by_cases k6 : x.kind = 6
  · exact want33_6 w T A cap rs R x Av cc hT hR hA hfew k6 hkey hby
  by_cases k7 : x.kind = 7
  · exact want33_7 w T A cap rs R x Av cc hT hR hA hfew k7 hkey hby
  exact want33_other w T A cap rs R x Av cc hT hR hA hfew ⟨k0, k1, k2, k3, k4, k5, k6, k7⟩ hkey hby


end Go.Proofs.Ytnonnencdhogiaa

/-
  Layer 14's law StoreTwo: two stores and the two lists that the document holds, in turns.
-/
namespace Go.Proofs.Ytnonnencdhogiaa
open Go.RowKit

/-- what either call may turn -/
abbrev TwT (T0 T1 : Nat → Prop) (bw : Nat) : Nat → Prop := fun k => T0 k ∨ T1 k ∨ k = bw

/-- two stores in memory and their lists -/
structure TwS (w0 : World) (bs bw : Nat) (wr : World) (s t : Nat) (T Z : Nat → Prop) (R Q : List KV) (i : Nat) (A B : Option Addr) (cp cq : Nat) (rs qs : List VRow) : Prop where
  g1 : RGood rs R
  g2 : RGood qs Q
  s1 : StoR wr s T (fun k => Z k ∨ k = bw) R i
  s2 : StoR wr t Z (fun k => T k ∨ k = bw) Q i
  stay : ∀ w', Only (T33 (TwT T Z bw) wr) wr w' → RAt w' A rs ∧ RAt w' B qs
  only : Only NoneOf w0 wr
  low : (∀ k, T k → w0.heap.size ≤ k) ∧ (∀ k, Z k → w0.heap.size ≤ k) ∧ w0.heap.size ≤ bw
  far : ¬ T bs ∧ ¬ Z bs ∧ bs ≠ bw ∧ bs < wr.heap.size

theorem TwS.swap {w0 wr : World} {bs bw s t i : Nat} {T Z : Nat → Prop} {R Q : List KV} {A B : Option Addr} {cp cq : Nat} {rs qs : List VRow} (h : TwS w0 bs bw wr s t T Z R Q i A B cp cq rs qs) : TwS w0 bs bw wr t s Z T Q R i B A cq cp qs rs :=
  ⟨h.g2, h.g1, h.s2, h.s1, fun w' ho => (h.stay w' (ho.mono fun k _ hk => by rcases hk with (h | h | h) | h; exact .inl (.inr (.inl h)); exact .inl (.inl h); exact .inl (.inr (.inr h)); exact .inr h)).symm, h.only, ⟨h.low.2.1, h.low.1, h.low.2.2⟩, ⟨h.far.2.1, h.far.1, h.far.2.2.1, h.far.2.2.2⟩⟩

/-- the values of two rows -/
abbrev twoV (o : Nat) (x y : Value) : Array Value := if o = 0 then #[x, y] else #[y, x]

/-- in a round -/
def TwRel (w0 : World) (s0 s1 bs bw n : Nat) (vi : Value) (wr : World) : Prop :=
  ∃ (i : Nat) (T0 T1 : Nat → Prop) (R0 R1 : List KV) (A0 A1 : Option Addr) (c0 c1 : Nat) (r0 r1 : List VRow), vi = .int .i64 i ∧ i ≤ n ∧ TwS w0 bs bw wr s0 s1 T0 T1 R0 R1 i A0 A1 c0 c1 r0 r1 ∧
    Blk wr bs 24 #[.pointer (some ⟨s0, 0, none⟩), .pointer (some ⟨s1, 0, none⟩)] ∧ Blk wr bw 65 #[.slice A0 r0.length c0, .slice A1 r1.length c1]

/-- seen from the one whose turn it is -/
theorem TwRel.view {w0 : World} {s0 s1 bs bw n : Nat} {vi : Value} {wr : World} (h : TwRel w0 s0 s1 bs bw n vi wr) (o : Nat) (ho : o < 2) :
    ∃ (i s t : Nat) (T Z : Nat → Prop) (R Q : List KV) (A B : Option Addr) (cp cq : Nat) (rs qs : List VRow), vi = .int .i64 i ∧ i ≤ n ∧ TwS w0 bs bw wr s t T Z R Q i A B cp cq rs qs ∧
      Blk wr bs 24 (twoV o (.pointer (some ⟨s, 0, none⟩)) (.pointer (some ⟨t, 0, none⟩))) ∧ Blk wr bw 65 (twoV o (.slice A rs.length cp) (.slice B qs.length cq)) ∧
      (∀ (u : World) (T2 : Nat → Prop) (R2 : List KV) (A2 : Option Addr) (c2 : Nat) (rs2 : List VRow), i + 1 ≤ n → TwS w0 bs bw u s t T2 Z R2 Q (i + 1) A2 B c2 cq rs2 qs → Blk u bs 24 (twoV o (.pointer (some ⟨s, 0, none⟩)) (.pointer (some ⟨t, 0, none⟩))) →
        Blk u bw 65 (twoV o (.slice A2 rs2.length c2) (.slice B qs.length cq)) → TwRel w0 s0 s1 bs bw n (.int .i64 ((i : Int) + 1)) u) := by
  obtain ⟨i, T0, T1, R0, R1, A0, A1, c0, c1, r0, r1, hv, hi, hs, hb, hw⟩ := h
  have e : ((i + 1 : Nat) : Int) = (i : Int) + 1 := by omega
  have : o = 0 ∨ o = 1 := by omega
  rcases this with rfl | rfl
  · exact ⟨i, s0, s1, T0, T1, R0, R1, A0, A1, c0, c1, r0, r1, hv, hi, hs, hb, hw, fun u T2 R2 A2 c2 rs2 hi2 hs2 hb2 hw2 => ⟨i + 1, T2, T1, R2, R1, A2, A1, c2, c1, rs2, r1, by rw [e], hi2, hs2, hb2, hw2⟩⟩
  · exact ⟨i, s1, s0, T1, T0, R1, R0, A1, A0, c1, c0, r1, r0, hv, hi, hs.swap, hb, hw, fun u T2 R2 A2 c2 rs2 hi2 hs2 hb2 hw2 => ⟨i + 1, T0, T2, R0, R2, A0, A2, c0, c2, r0, rs2, by rw [e], hi2, hs2.swap, hb2, hw2⟩⟩

section
variable {w0 wr u : World} {bs bw s t i : Nat} {T Z : Nat → Prop} {R Q : List KV} {A B : Option Addr} {cp cq : Nat} {rs qs : List VRow}
theorem TwS.tlt (h : TwS w0 bs bw wr s t T Z R Q i A B cp cq rs qs) (hb : bw < wr.heap.size) : ∀ k, TwT T Z bw k → k < wr.heap.size := fun k hk => by
  rcases hk with hk | hk | hk
  · exact h.s1.lt hk
  · exact h.s2.lt hk
  · omega
theorem TwS.keep (h : TwS w0 bs bw wr s t T Z R Q i A B cp cq rs qs) (ho : Only NoneOf wr u) : TwS w0 bs bw u s t T Z R Q i A B cp cq rs qs :=
  ⟨h.g1, h.g2, h.s1.keep ho, h.s2.keep ho, fun w' ho' => h.stay w' (t33_back ho ho'), h.only.trans ho, h.low, ⟨h.far.1, h.far.2.1, h.far.2.2.1, Nat.lt_of_lt_of_le h.far.2.2.2 ho.size⟩⟩
/-- the call, and what the document holds behind it -/
theorem TwS.turn (h : TwS w0 bs bw wr s t T Z R Q i A B cp cq rs qs) {u v : World} {T2 : Nat → Prop} {R2 : List KV} {A2 : Option Addr} {c2 : Nat} {rs2 : List VRow} (hou : Only NoneOf wr u) (hs : StoR v s T2 (fun k => Z k ∨ k = bw) R2 (i + 1)) (ho : Only T u v) (hT : ∀ k, T2 k → T k ∨ u.heap.size ≤ k)
    (hg : RGood rs2 R2) (hst : ∀ w', Only (T33 (TwT T Z bw) u) u w' → RAt w' A2 rs2) (hb : bw < wr.heap.size) : TwS w0 bs bw v s t T2 Z R2 Q (i + 1) A2 B c2 cq rs2 qs := by
  have hsz := hou.size
  refine ⟨hg, h.g2, hs, ((h.s2.keep hou).other ho (fun k hk => .inl hk) (fun k hk => ?_)).more (by omega), fun w' ho' => ?_, (h.only.trans hou).step ho (fun k hk hh => by have := h.low.1 k hh; omega), ⟨fun k hk => ?_, h.low.2.1, h.low.2.2⟩, ⟨fun hk => ?_, h.far.2.1, h.far.2.2.1, Nat.lt_of_lt_of_le h.far.2.2.2 (Nat.le_trans hsz ho.size)⟩⟩
  · rcases hk with hk | hk
    · exact ⟨hs.lt hk, (hT k hk).imp .inl id⟩
    · subst hk; exact ⟨by have := ho.size; omega, .inl (.inr rfl)⟩
  · have hall : Only (T33 (TwT T Z bw) u) u w' := (ho.mono fun _ _ h => .inl (.inl h)).step ho' (fun k hk hh => by
      rcases hh with (hh | hh | hh) | ⟨cs, hh⟩
      · rcases hT k hh with h | h
        · exact .inl (.inl h)
        · omega
      · exact .inl (.inr (.inl hh))
      · exact .inl (.inr (.inr hh))
      · by_cases ht : T k
        · exact .inl (.inl ht)
        · exact .inr ⟨cs, blk_back ho hk ht hh⟩)
    exact ⟨hst w' hall, (h.stay w' (t33_back hou hall)).2⟩
  · rcases hT k hk with h' | h'
    · exact h.low.1 k h'
    · have := h.only.size; omega
  · rcases hT bs hk with h' | h'
    · exact h.far.1 h'
    · have := h.far.2.2.2; omega
/-- the lists' own block is written -/
theorem TwS.put (h : TwS w0 bs bw wr s t T Z R Q i A B cp cq rs qs) {u : World} (ho : Only (· = bw) wr u) (hb : bw < wr.heap.size) : TwS w0 bs bw u s t T Z R Q i A B cp cq rs qs := by
  have hsz := ho.size
  refine ⟨h.g1, h.g2, h.s1.other ho (fun k hk => .inr hk) (fun k hk => ⟨?_, .inl hk⟩), h.s2.other ho (fun k hk => .inr hk) (fun k hk => ⟨?_, .inl hk⟩), fun w' ho' => h.stay w' ((ho.mono fun k _ hk => .inl (.inr (.inr hk))).step ho' (fun k hk hh => by
    rcases hh with hh | ⟨cs, hb'⟩
    · exact .inl hh
    · by_cases e : k = bw
      · exact .inl (.inr (.inr e))
      · exact .inr ⟨cs, blk_back ho hk e hb'⟩)), h.only.step ho (fun k hk hh => by have := h.low.2.2; omega), h.low, ⟨h.far.1, h.far.2.1, h.far.2.2.1, Nat.lt_of_lt_of_le h.far.2.2.2 hsz⟩⟩
  · rcases hk with hk | hk
    · exact Nat.lt_of_lt_of_le (h.s2.lt hk) hsz
    · omega
  · rcases hk with hk | hk
    · exact Nat.lt_of_lt_of_le (h.s1.lt hk) hsz
    · omega
end

end Go.Proofs.Ytnonnencdhogiaa

/-
  As Head2, with stores among the operations: what yields no value.
-/
namespace Go.Proofs.Ytnonnencdhogiaa
open Go.RowKit

def headB3 (ops : Array Oper) (n : Nat) (srcs : List Nat) (tn : Nat → Option Nat) : Bool :=
  (List.range n).all fun i => match ops[i]? with
    | some o => (match o.guard with | none => true | some (g, _) => decide (g < n) && srcs.contains g && bindsOn o g) && (o.dst.isSome || (o.guard.isNone && !srcs.contains i)) && (o.after.all fun e => !Region.binds .any e || decide (e.on < i)) &&
        ((List.range n).all fun j => decide (i = j) || !decide (dstOf ops i = dstOf ops j)) && (match tn i with | some (t + 1) => (List.range n).any fun j => decide (tn j = some t) && bindsOn o j | _ => true) &&
        ((List.range n).all fun j => decide (i = j) || decide (tn i = none) || !decide (tn i = tn j))
    | none => false
def regionB3 (ops : Array Oper) (n m : Nat) (srcs : List Nat) (tn : Nat → Option Nat) : Bool :=
  (decide (n = ops.size) || (decide (n < ops.size) && Region.sinkB .any ops n && Region.chainB .any ops n)) && Region.seqB .any ops (ops.size - n) n (Array.ofFn fun i : Fin ops.size => decide (i.1 < n)) &&
    headB3 ops n srcs tn && ((List.range n).all fun i => decide (dstOf ops i < m))

structure HSpec3 (ops : Array Oper) (n : Nat) (srcs : List Nat) (tn : Nat → Option Nat) (i : Nat) (o : Oper) : Prop where
  at_ : ops[i]? = some o
  guard : ∀ g b, o.guard = some (g, b) → g < n ∧ g ∈ srcs ∧ ∃ e ∈ o.after, Region.binds .any e = true ∧ e.on = g
  dst : o.dst = some (dstOf ops i) ∨ (o.dst = none ∧ i ∉ srcs ∧ o.guard = none ∧ dstOf ops i = 0)
  back : ∀ e ∈ o.after, Region.binds .any e = true → e.on < i
  apart : ∀ j, j < n → i ≠ j → dstOf ops i ≠ dstOf ops j
  turn : ∀ t, tn i = some (t + 1) → ∃ j, j < n ∧ tn j = some t ∧ ∃ e ∈ o.after, Region.binds .any e = true ∧ e.on = j
  one : ∀ j, j < n → i ≠ j → tn i ≠ none → tn i ≠ tn j

theorem headB3_spec {ops : Array Oper} {n : Nat} {srcs : List Nat} {tn : Nat → Option Nat} (h : headB3 ops n srcs tn = true) {i : Nat} (hi : i < n) : ∃ o, HSpec3 ops n srcs tn i o := by
  have h1 := List.all_eq_true.1 h i (List.mem_range.2 hi)
  cases ho : ops[i]? with
  | none => rw [ho] at h1; cases h1
  | some o =>
    rw [ho] at h1
    simp only [Bool.and_eq_true] at h1
    obtain ⟨⟨⟨⟨⟨h2, h3⟩, h4⟩, h5⟩, h6⟩, h7⟩ := h1
    refine ⟨o, ho, fun g b hg => ?_, ?_, fun e he hb => ?_, fun j hj hij => ?_, fun t ht => ?_, fun j hj hij hne => ?_⟩
    · rw [hg] at h2
      simp only [Bool.and_eq_true, decide_eq_true_eq, List.contains_iff_mem] at h2
      exact ⟨h2.1.1, h2.1.2, bindsOn_spec h2.2⟩
    · cases hd : o.dst with
      | some d => exact .inl (by simp [dstOf, ho, hd])
      | none =>
        rw [hd] at h3
        simp only [Option.isSome_none, Bool.false_or, Bool.and_eq_true, Bool.not_eq_true', Option.isNone_iff_eq_none] at h3
        exact .inr ⟨rfl, fun hc => (by rw [← List.contains_iff_mem, h3.2] at hc; cases hc), h3.1, by simp [dstOf, ho, hd]⟩
    · have := Array.all_eq_true_iff_forall_mem.1 h4 e he
      rw [hb] at this
      simpa using this
    · have := List.all_eq_true.1 h5 j (List.mem_range.2 hj)
      simp only [Bool.or_eq_true, decide_eq_true_eq, Bool.not_eq_true', decide_eq_false_iff_not] at this
      exact this.resolve_left hij
    · rw [ht] at h6
      obtain ⟨j, hj, hh⟩ := List.any_eq_true.1 h6
      simp only [Bool.and_eq_true, decide_eq_true_eq] at hh
      exact ⟨j, List.mem_range.1 hj, hh.1, bindsOn_spec hh.2⟩
    · have := List.all_eq_true.1 h7 j (List.mem_range.2 hj)
      simp only [Bool.or_eq_true, decide_eq_true_eq, Bool.not_eq_true', decide_eq_false_iff_not] at this
      rcases this with (h | h) | h
      · exact absurd h hij
      · exact absurd h hne
      · exact h

section
variable {P : Program} {ops : Array Oper} {n : Nat} {a0 : Act} {T : Nat → Value → World → Prop} {G : Nat → Value → World → Prop} {z : Nat} {S : Nat → Prop} {Rl : World → World → Prop} {gv : Nat → Option Bool} {srcs : List Nat} {tn : Nat → Option Nat}

structure HInv3 (z : Nat) (ops : Array Oper) (n : Nat) (a0 : Act) (T : Nat → Value → World → Prop) (G : Nat → Value → World → Prop) (tn : Nat → Option Nat) (listed : Array Bool) (a : Act) (w : World) : Prop where
  defers : a.defers = a0.defers
  size : a.tmps.size = a0.tmps.size
  other : ∀ s, (∀ i, i < n → listed.getD i false = true → dstOf ops i ≠ s) → a.tmps.getD s undef = a0.tmps.getD s undef
  held : ∀ i, i < n → listed.getD i false = true → T i (a.tmps.getD (dstOf ops i) undef) w
  phase : ∃ k, G k (a.tmps.getD z undef) w ∧ ∀ i t, i < n → tn i = some t → (listed.getD i false = true ↔ t < k)

/-- What an operation leaves. -/
def Left3 (z : Nat) (T : Nat → Value → World → Prop) (G : Nat → Value → World → Prop) (Rl : World → World → Prop) (tn : Nat → Option Nat) (i k : Nat) (o : Oper) (a : Act) (w : World) (a' : Act) (w' : World) : Prop :=
  ∃ v, a' = a.put o.dst v ∧ (o.dst = none → v = a.tmps.getD 0 undef) ∧ T i v w' ∧ G (nextPh tn i k) (a'.tmps.getD z undef) w' ∧ Rl w w'

/-- What a store leaves. -/
def LeftS (z : Nat) (T : Nat → Value → World → Prop) (G : Nat → Value → World → Prop) (Rl : World → World → Prop) (tn : Nat → Option Nat) (i k : Nat) (a : Act) (w : World) (a' : Act) (w' : World) : Prop :=
  a' = a ∧ T i (a.tmps.getD 0 undef) w' ∧ G (nextPh tn i k) (a.tmps.getD z undef) w' ∧ Rl w w'
/-- What the operation leaves whose slot the phase looks at. -/
def LeftZ (T : Nat → Value → World → Prop) (G : Nat → Value → World → Prop) (S : Nat → Prop) (tn : Nat → Option Nat) (i k : Nat) (o : Oper) (a : Act) (w : World) (a' : Act) (w' : World) : Prop :=
  ∃ v, a' = a.put o.dst v ∧ T i v w' ∧ G (nextPh tn i k) v w' ∧ Only S w w'
theorem left3_either {i k : Nat} {o : Oper} {a : Act} {w : World} {Q : Exit → Act → World → Prop} (hSR : ∀ w w', Only S w w' → Rl w w') (hlt : ∀ d, o.dst = some d → d < a.tmps.size)
    (h : if o.dst.isSome = true then (if o.dst = some z then o.wp P a w (LeftZ T G S tn i k o a w) Q else o.wp P a w (Left2 T (fun k w => G k (a.tmps.getD z undef) w) S tn i k o a w) Q) else o.wp P a w (LeftS z T G Rl tn i k a w) Q) : o.wp P a w (Left3 z T G Rl tn i k o a w) Q := by
  cases hd : o.dst with
  | some d =>
    have hl := hlt d hd
    simp only [hd, Option.isSome_some, if_true] at h
    by_cases hz : d = z
    · subst hz
      rw [if_pos rfl] at h
      exact Oper.wp_mono (fun a' w' ⟨v, h1, h2⟩ => ⟨v, h1, fun h0 => (by rw [hd] at h0; cases h0), h2.1, by rw [h1, hd, put_getD a d d v hl, if_pos rfl]; exact h2.2.1, hSR _ _ h2.2.2⟩) h
    · rw [if_neg (fun e => hz (by injection e))] at h
      exact Oper.wp_mono (fun a' w' ⟨v, h1, h2⟩ => ⟨v, h1, fun h0 => (by rw [hd] at h0; cases h0), h2.1, by rw [h1, hd, put_getD a d z v hl, if_neg hz]; exact h2.2.1, hSR _ _ h2.2.2⟩) h
  | none =>
    simp only [hd, Option.isSome_none, Bool.false_eq_true, if_false] at h
    exact Oper.wp_mono (fun a' w' ⟨h1, h2⟩ => ⟨a.tmps.getD 0 undef, by rw [h1, hd]; rfl, fun _ => rfl, h2.1, by rw [h1]; exact h2.2.1, h2.2.2⟩) h

theorem HInv3.put {listed : Array Bool} {a : Act} {w : World} (inv : HInv3 z ops n a0 T G tn listed a w) (hb : headB3 ops n srcs tn = true) (hd : ∀ i, i < n → dstOf ops i < a0.tmps.size)
    (hT : ∀ i v w w', T i v w → Rl w w' → T i v w') {i : Nat} (hi : i < n) {o : Oper} (ho : ops[i]? = some o) (hun : listed.getD i true = false) {k : Nat} (hk : ∀ j t, j < n → tn j = some t → (listed.getD j false = true ↔ t < k))
    (hik : tn i = none ∨ tn i = some k) {a' : Act} {w' : World} (h : Left3 z T G Rl tn i k o a w a' w') : HInv3 z ops n a0 T G tn (listed.setIfInBounds i true) a' w' := by
  obtain ⟨v, rfl, hv0, hv, hg', ho'⟩ := h
  obtain ⟨o', sp⟩ := headB3_spec hb hi
  obtain rfl : o' = o := Option.some.inj (sp.at_.symm.trans ho)
  have hg := fun s => put_getD a (dstOf ops i) s v (by rw [inv.size]; exact hd i hi)
  have hput : a.put o'.dst v = a.put (some (dstOf ops i)) v := by
    rcases sp.dst with h | ⟨h, _, _, h0⟩
    · rw [h]
    · rw [h, h0, hv0 h]
      have hlt : 0 < a.tmps.size := by have := hd i hi; rw [h0] at this; rw [inv.size]; exact this
      refine act_ext (put_defers _ _ _).symm (put_size _ _ _).symm fun s => ?_
      rw [put_getD a 0 s _ hlt]
      by_cases e : s = 0
      · subst e
        rw [if_pos rfl]
        rfl
      · rw [if_neg (by first | exact e | exact Ne.symm e)]
        rfl
  rw [hput] at hg' ⊢
  have hother : ∀ j, j ≠ i → (listed.setIfInBounds i true).getD j false = true → listed.getD j false = true := fun j hj hl => by rwa [getD_set_ne false (Ne.symm hj)] at hl
  have hself : (listed.setIfInBounds i true).getD i false = true := by
    have : i < listed.size := by
      rcases Nat.lt_or_ge i listed.size with h' | h'
      · exact h'
      · simp [Array.getElem?_eq_none h'] at hun
    simp [this]
  refine ⟨(put_defers _ _ _).trans inv.defers, (put_size _ _ _).trans inv.size, fun s hs => ?_, fun j hj hl => ?_, nextPh tn i k, hg', fun j t hj ht => ?_⟩
  · rw [hg, if_neg (hs i hi hself)]
    exact inv.other s fun j hj hl => hs j hj (getD_set_true hl)
  · by_cases hji : j = i
    · subst hji
      rw [hg, if_pos rfl]
      exact hv
    · rw [hg, if_neg (sp.apart j hj (Ne.symm hji))]
      exact hT _ _ _ _ (inv.held j hj (hother j hji hl)) ho'
  · unfold nextPh
    by_cases hji : j = i
    · subst hji
      rcases hik with hik | hik
      · rw [hik] at ht; cases ht
      · rw [hik] at ht
        injection ht with ht
        rw [if_pos hik]
        exact ⟨fun _ => by omega, fun _ => hself⟩
    · rw [getD_set_ne false (Ne.symm hji), hk j t hj ht]
      by_cases he : tn i = some k
      · rw [if_pos he]
        have : t ≠ k := fun e => sp.one j hj (Ne.symm hji) (by rw [he]; simp) (by rw [he, ht, e])
        constructor <;> intro h <;> omega
      · rw [if_neg he]

theorem HInv3.end {listed : Array Bool} {a : Act} {w : World} (inv : HInv3 z ops n a0 T G tn listed a w) (hd : ∀ i, i < n → dstOf ops i < a0.tmps.size) :
    a = endFrame ops n a0 (fun i => a.tmps.getD (dstOf ops i) undef) := by
  obtain ⟨h1, h2, h3⟩ := foldl_put (fun s => a.tmps.getD s undef) (dstOf ops) (List.range n) a0 (fun i hi => hd i (List.mem_range.1 hi))
  refine act_ext (inv.defers.trans h1.symm) (inv.size.trans h2.symm) fun s => ?_
  unfold endFrame
  rw [h3 s]
  split
  · rfl
  · rename_i hs
    exact inv.other s fun i hi _ he => hs ⟨i, List.mem_range.2 hi, he⟩
end

section
variable {P : Program}
theorem head3_any {Q : Exit → Act → World → Prop} {l : List Oper} {a0 : Act} {W : World} (z n m : Nat) (srcs : List Nat) (gv : Nat → Option Bool) (tn : Nat → Option Nat) (S : Nat → Prop) (Rl : World → World → Prop) (G : Nat → Value → World → Prop) (T : Nat → Value → World → Prop) (hsz : a0.tmps.size = m)
    (hB : regionB3 l.toArray n m srcs tn = true) (hwall : ∀ i o, i < n → l[i]? = some o → wantOf gv o = true) (hgv : ∀ g, g ∈ srcs → ∀ v w, T g v w → boolOf v = gv g)
    (hT : ∀ i v w w', T i v w → Rl w w' → T i v w') (hSR : ∀ w w', Only S w w' → Rl w w') (hG : G 0 (a0.tmps.getD z undef) { W with drawn := W.drawn + 1 })
    (hstep : ∀ i o, i < n → l[i]? = some o → ∀ a w k, G k (a.tmps.getD z undef) w → (tn i = none ∨ tn i = some k) → (∀ s, (∀ j, j < n → dstOf l.toArray j ≠ s) → a.tmps.getD s undef = a0.tmps.getD s undef) → (o.dst = none → a.tmps.getD 0 undef = a0.tmps.getD 0 undef) →
      (∀ j, j < n → Region.waitsFor .any l.toArray i j = true → T j (a.tmps.getD (dstOf l.toArray j) undef) w) → if o.dst.isSome = true then (if o.dst = some z then o.wp P a w (LeftZ T G S tn i k o a w) Q else o.wp P a w (Left2 T (fun k w => G k (a.tmps.getD z undef) w) S tn i k o a w) Q) else o.wp P a w (LeftS z T G Rl tn i k a w) Q)
    (hend : ∀ (V : Nat → Value) w k c, (∀ i, i < n → dstOf l.toArray i = z → c = V i) → G k c w → (∀ i t, i < n → tn i = some t → t < k) → (∀ i, i < n → T i (V i) w) → wpList P l.toArray Q (l.drop n) (endFrame l.toArray n a0 V) w) :
    wpAny P .any l.toArray Q l.toArray.size (Array.replicate l.toArray.size false) a0 { W with drawn := W.drawn + 1 } := by
  simp only [regionB3, Bool.and_eq_true, Bool.or_eq_true, decide_eq_true_eq] at hB
  obtain ⟨⟨⟨hnn, hseq⟩, hb⟩, hd'⟩ := hB
  have hns : n ≤ l.toArray.size := by rcases hnn with h | ⟨⟨h, _⟩, _⟩ <;> omega
  have hd : ∀ i, i < n → dstOf l.toArray i < a0.tmps.size := fun i hi => by
    have := List.all_eq_true.1 hd' i (List.mem_range.2 hi)
    rw [hsz]
    simpa using this
  have hdl : (l.drop n).length = l.toArray.size - n := by simp
  have key : ∀ (f : Nat) (listed : Array Bool) (a : Act) (w : World), (List.range n).countP (fun i => !listed.getD i false) = f → HeadInv .any l.toArray n listed → HInv3 z l.toArray n a0 T G tn listed a w →
      wpAny P .any l.toArray Q (f + (l.toArray.size - n)) listed a w := by
    intro f
    induction f with
    | zero =>
      intro listed a w hcount hinv inv
      have hl : ∀ i, i < n → listed.getD i false = true := fun i hi => by
        have := List.countP_eq_zero.1 hcount i (List.mem_range.2 hi)
        simpa using this
      have he : listed = Array.ofFn fun i : Fin l.toArray.size => decide (i.1 < n) := by
        refine Array.ext (by simp [hinv.size]) fun i h1 h2 => ?_
        rw [Array.getElem_ofFn]
        by_cases hi : i < n
        · have := hl i hi
          simpa [h1, hi] using this
        · have := hinv.tail i (by omega) (by rw [← hinv.size]; exact h1)
          simpa [h1, hi] using this
      obtain ⟨k, hk, hph⟩ := inv.phase
      have hend' := hend (fun i => a.tmps.getD (dstOf l.toArray i) undef) w k (a.tmps.getD z undef) (fun i _ e => by rw [← e]) hk (fun i t hi ht => (hph i t hi ht).1 (hl i hi)) (fun i hi => inv.held i hi (hl i hi))
      rw [← inv.end hd] at hend'
      have := wpAny_of_seq (md := .any) (Q' := Q) (l.drop n) n listed a w (fun j => by simp [List.getElem?_drop]) (by rw [hdl, he]; exact hseq) hend'
      rw [hdl] at this
      rw [Nat.zero_add]
      exact this
    | succ f ih =>
      intro listed a w hcount hinv inv
      rw [show f + 1 + (l.toArray.size - n) = (f + (l.toArray.size - n)) + 1 by omega]
      obtain ⟨i0, hi0, hu0⟩ : ∃ i, i < n ∧ listed.getD i false = false := by
        have : 0 < (List.range n).countP (fun i => !listed.getD i false) := by omega
        obtain ⟨i, hi, hu⟩ := List.countP_pos_iff.1 this
        exact ⟨i, List.mem_range.1 hi, by simpa using hu⟩
      have hus : ∀ i, i < n → listed.getD i false = false → listed.getD i true = false := fun i hi hu => getD_in (by rw [hinv.size]; omega) hu
      have hready : ∀ i, i ∈ Region.ready .any l.toArray listed → i < n := fun i hi => by
        rcases Nat.lt_or_ge i n with h | h
        · exact h
        · rcases hnn with h' | ⟨⟨hn, hs⟩, hc⟩
          · obtain ⟨_, o, ho, _⟩ := mem_ready.1 hi
            have := (Array.getElem?_eq_some_iff.1 ho).1
            omega
          · exact absurd hi (tail_waits hs hc hn hinv _ i0 rfl hi0 (hus i0 hi0 hu0) i h)
      refine ⟨fun hr => ?_, fun i hi => ?_⟩
      · exfalso
        have : ∀ k i, i < k → i < n → listed.getD i false = false → ∃ j, j ∈ Region.ready .any l.toArray listed := by
          intro k
          induction k with
          | zero => intro i hi; omega
          | succ k ihk =>
            intro i hik hi hu
            by_cases hlow : ∃ j, j < i ∧ listed.getD j false = false
            · obtain ⟨j, hj, huj⟩ := hlow
              exact ihk j (by omega) (by omega) huj
            · obtain ⟨o, sp⟩ := headB3_spec hb hi
              refine ⟨i, mem_ready.2 ⟨hus i hi hu, o, sp.at_, fun e he hbe => ?_⟩⟩
              have hlt := sp.back e he hbe
              cases hle : listed.getD e.on false with
              | true => rfl
              | false => exact absurd ⟨e.on, hlt, hle⟩ hlow
        obtain ⟨j, hj⟩ := this (i0 + 1) i0 (by omega) hi0 hu0
        rw [hr] at hj
        cases hj
      · have hin := hready i hi
        obtain ⟨hun, o, ho, hall⟩ := mem_ready.1 hi
        obtain ⟨o', sp⟩ := headB3_spec hb hin
        obtain rfl : o' = o := Option.some.inj (sp.at_.symm.trans ho)
        obtain ⟨k, hk, hph⟩ := inv.phase
        have hik : tn i = none ∨ tn i = some k := by
          cases ht : tn i with
          | none => exact .inl rfl
          | some t =>
            refine .inr (congrArg some ?_)
            have h1 : ¬ t < k := fun h => by
              have := (hph i t hin ht).2 h
              rw [getD_both hun] at this
              cases this
            cases t with
            | zero =>
              rcases Nat.eq_zero_or_pos k with h | h
              · exact h.symm
              · omega
            | succ t =>
              obtain ⟨j, hj, htj, e, he, hbe, hon⟩ := sp.turn t ht
              have := (hph j t hj htj).1 (by rw [← hon]; exact hall e he hbe)
              omega
        have hw := hstep i o' hin (by simpa using ho) a w k hk hik (fun s hs => inv.other s fun j hj _ => hs j hj) (fun h0 => inv.other 0 fun j hj hl => by
          rcases sp.dst with h | ⟨_, _, _, hz⟩
          · rw [h0] at h; cases h
          · intro e
            by_cases hji : j = i
            · subst hji
              rw [getD_both hun] at hl
              cases hl
            · exact sp.apart j hj (Ne.symm hji) (by rw [hz, e])) (fun j hj hwt => by
          obtain ⟨oj, hoj, e, he, hbe, hon⟩ := Region.waitsFor_spec hwt
          obtain rfl : oj = o' := Option.some.inj (hoj.symm.trans ho)
          have := hall e he hbe
          rw [hon] at this
          exact inv.held j hj this)
        have hwant : Region.wanted o' (yielded l.toArray a.tmps) = wantOf gv o' := by
          unfold Region.wanted wantOf
          cases hgd : o'.guard with
          | none => rfl
          | some gb =>
            obtain ⟨g, b⟩ := gb
            obtain ⟨hgn, hgs, e, he, hbe, hon⟩ := sp.guard g b hgd
            have hlg : listed.getD g false = true := by rw [← hon]; exact hall e he hbe
            have hTg := hgv g hgs _ _ (inv.held g hgn hlg)
            obtain ⟨og, spg⟩ := headB3_spec hb hgn
            have hy : yielded l.toArray a.tmps g = boolOf (a.tmps.getD (dstOf l.toArray g) undef) := by
              unfold yielded
              have hsd : og.dst = some (dstOf l.toArray g) := by
                rcases spg.dst with h | ⟨_, h, _⟩
                · exact h
                · exact absurd hgs h
              rw [spg.at_, Option.bind_some, hsd, Option.bind_some]
              have hlt : dstOf l.toArray g < a.tmps.size := by rw [inv.size]; exact hd g hgn
              rw [Array.getElem?_eq_getElem hlt]
              simp only [Array.getD_eq_getD_getElem?, Array.getElem?_eq_getElem hlt, Option.getD_some]
              cases a.tmps[dstOf l.toArray g] <;> rfl
            simp only
            rw [hy, hTg]
        have hfin : ∀ a' w', Left3 z T G Rl tn i k o' a w a' w' → wpAny P .any l.toArray Q (f + (l.toArray.size - n)) (listed.setIfInBounds i true) a' w' := fun a' w' h' => ih _ a' w' (by
          have hself : (listed.setIfInBounds i true).getD i false = true := by
            have : i < listed.size := by rw [hinv.size]; omega
            simp [this]
          have := countP_less (fun i => !listed.getD i false) (fun j => !(listed.setIfInBounds i true).getD j false) i (List.range n) List.nodup_range (List.mem_range.2 hin) (by rw [getD_both hun]; rfl) (by rw [hself]; rfl) (fun j hj => by rw [getD_set_ne false (Ne.symm hj)])
          omega) (hinv.set hi hin) (inv.put hb hd hT hin ho hun hph hik h')
        unfold wpOp
        simp only [ho]
        rw [hwant]
        rw [hwall i o' hin (by simpa using ho)]
        rw [if_pos rfl]
        exact .inl (Oper.wp_mono hfin (left3_either hSR (fun d hd' => by
          rcases sp.dst with h | ⟨h, _⟩
          · rw [hd'] at h
            injection h with h
            rw [h, inv.size]
            exact hd i hin
          · rw [hd'] at h; cases h) hw))
  have h0 := key n (Array.replicate l.toArray.size false) a0 { W with drawn := W.drawn + 1 } (by
      rw [List.countP_eq_length.2 (fun i _ => by rw [getD_replicate_false]; rfl)]
      simp)
    ⟨by simp, fun j oj _ hl => (by rw [getD_replicate_false] at hl; cases hl), fun t _ ht => getD_in (by simpa using ht) (getD_replicate_false _ _)⟩
    ⟨rfl, rfl, fun _ _ => rfl, fun i _ hl => (by rw [getD_replicate_false] at hl; cases hl), 0, hG, fun i t _ _ => ⟨fun hl => (by rw [getD_replicate_false] at hl; cases hl), fun h => (by omega)⟩⟩
  rw [show n + (l.toArray.size - n) = l.toArray.size by omega] at h0
  exact h0
end

theorem wp_region_head3 {P : Program} {id : Nat} {Q : Exit → Act → World → Prop} {l : List Oper} {a0 : Act} {W : World} (z n m : Nat) (srcs : List Nat) (gv : Nat → Option Bool) (tn : Nat → Option Nat) (S : Nat → Prop) (Rl : World → World → Prop) (G : Nat → Value → World → Prop) (T : Nat → Value → World → Prop) (hsz : a0.tmps.size = m) (hm : P.follows .mixedOrders = true)
    (hB : regionB3 l.toArray n m srcs tn = true) (hwall : ∀ i o, i < n → l[i]? = some o → wantOf gv o = true) (hgv : ∀ g, g ∈ srcs → ∀ v w, T g v w → boolOf v = gv g)
    (hT : ∀ i v w w', T i v w → Rl w w' → T i v w') (hSR : ∀ w w', Only S w w' → Rl w w') (hG : G 0 (a0.tmps.getD z undef) { W with drawn := W.drawn + 1 })
    (hstep : ∀ i o, i < n → l[i]? = some o → ∀ a w k, G k (a.tmps.getD z undef) w → (tn i = none ∨ tn i = some k) → (∀ s, (∀ j, j < n → dstOf l.toArray j ≠ s) → a.tmps.getD s undef = a0.tmps.getD s undef) → (o.dst = none → a.tmps.getD 0 undef = a0.tmps.getD 0 undef) →
      (∀ j, j < n → Region.waitsFor .any l.toArray i j = true → T j (a.tmps.getD (dstOf l.toArray j) undef) w) → if o.dst.isSome = true then (if o.dst = some z then o.wp P a w (LeftZ T G S tn i k o a w) Q else o.wp P a w (Left2 T (fun k w => G k (a.tmps.getD z undef) w) S tn i k o a w) Q) else o.wp P a w (LeftS z T G Rl tn i k a w) Q)
    (hend : ∀ (V : Nat → Value) w k c, (∀ i, i < n → dstOf l.toArray i = z → c = V i) → G k c w → (∀ i t, i < n → tn i = some t → t < k) → (∀ i, i < n → T i (V i) w) → wpList P l.toArray Q (l.drop n) (endFrame l.toArray n a0 V) w) :
    (Code.region id l.toArray true).wp P Q a0 W :=
  wp_region_any hm (head3_any z n m srcs gv tn S Rl G T hsz hB hwall hgv hT hSR hG hstep hend)

section
variable {P : Program} {T : Nat → Value → World → Prop} {G : Nat → Value → World → Prop} {z : Nat} {S : Nat → Prop} {Rl : World → World → Prop} {tn : Nat → Option Nat} {i k : Nat} {o : Oper} {a : Act} {w : World} {Q : Exit → Act → World → Prop}
/-- memory made, where the phase looks -/
theorem leftZ_new (v : Value) (w' : World) (ho : (execOp a.eval o).run P w = .ok (.value v) w') (hw : Only S w w') (hv : T i v w') (hg : G (nextPh tn i k) v w') : o.wp P a w (LeftZ T G S tn i k o a w) Q := by
  unfold Oper.wp
  rw [ho]
  exact ⟨v, rfl, hv, hg, hw⟩
/-- a row stored -/
theorem leftS_row (ty : TypeId) (x y : Operand) (ho : o.op = .store ty x y) (g : Nat) (cells : Array Value) (hx : a.eval x = .pointer (some ⟨g, 0, none⟩)) (hy : a.eval y = .agg cells)
    (t : TypeId) (old : Array Value) (hg : w.heap[g]? = some (.cells old t (0, 0))) (hi : (P.info? ty).map (·.size) = some cells.size) (hold : old.size = cells.size) (h1 : cells.all (·.oneCell') = true) (hd : o.dst = none)
    (h : T i (a.tmps.getD 0 undef) (w.setRow g cells) ∧ G (nextPh tn i k) (a.tmps.getD z undef) (w.setRow g cells) ∧ Rl w (w.setRow g cells)) : o.wp P a w (LeftS z T G Rl tn i k a w) Q :=
  wp_store_row ty x y ho g cells hx hy t old hg hi hold h1 ⟨by rw [hd]; rfl, h⟩
end
end Go.Proofs.Ytnonnencdhogiaa

