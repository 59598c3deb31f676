/-
  Texts of this proof, laid together: T29, T27b, T30.
-/
import Derived.Test.YtbhihbhjmmeibaaM6
/-
  Layer 17's law TxnOwn walked.
-/
namespace Go.Proofs.Ytbhihbhjmmeibaa
open Go.RowKit Go.Shelf
open Qa (Ac AcIs AcPost)

/-- what stands in a law: all of it is new -/
structure LawSt (w : World) (n : Nat) (os : Nat → Ob) (F : Nat → Nat → Prop) (u : World) : Prop where
  sc : Scene n os F u
  only : Only NoneOf w u
  new : ∀ j, j < n → ∀ k, F j k → w.heap.size ≤ k
theorem LawSt.keep {w u u' : World} {n : Nat} {os : Nat → Ob} {F : Nat → Nat → Prop} (h : LawSt w n os F u) (ho : Only NoneOf u u') : LawSt w n os F u' := ⟨h.sc.keep ho, h.only.trans ho, h.new⟩
theorem LawSt.congr {w u : World} {n : Nat} {os os' : Nat → Ob} {F : Nat → Nat → Prop} (h : LawSt w n os F u) (he : ∀ i, i < n → os i = os' i) : LawSt w n os' F u := ⟨h.sc.congr he, h.only, h.new⟩
theorem LawSt.turn {w u u' : World} {n : Nat} {os os' : Nat → Ob} {F : Nat → Nat → Prop} {S : Nat → Prop} (h : LawSt w n os F u) (hs : Scene n os' F u') (ho : Only S u u') (hS : ∀ k, S k → ∃ j, j < n ∧ F j k) : LawSt w n os' F u' :=
  ⟨hs, h.only.step ho (fun k hk hh => by obtain ⟨j, hj, hf⟩ := hS k hh; have := h.new j hj k hf; omega), h.new⟩
theorem LawSt.grow {w u u' : World} {n : Nat} {os os' : Nat → Ob} {F : Nat → Nat → Prop} {F' : Nat → Prop} {j : Nat} (h : LawSt w n os F u) (hj : j < n) (hs : Scene n os' (setAt F j F') u') (ho : Only (F j) u u') (hF : ∀ k, F' k → F j k ∨ u.heap.size ≤ k) : LawSt w n os' (setAt F j F') u' :=
  ⟨hs, h.only.step ho (fun k hk hh => by have := h.new j hj k hh; omega), fun i hi k hk => by
    by_cases e : i = j
    · subst e
      rw [setAt_same] at hk
      rcases hF k hk with h1 | h1
      · exact h.new i hi k h1
      · have := h.only.size; omega
    · rw [setAt_ne _ _ e] at hk
      exact h.new i hi k hk⟩
theorem LawSt.more {w u u' : World} {n : Nat} {os os' : Nat → Ob} {F : Nat → Nat → Prop} {F' : Nat → Prop} (h : LawSt w n os F u) (hs : Scene (n + 1) os' (setAt F n F') u') (ho : Only NoneOf u u') (hF : ∀ k, F' k → u.heap.size ≤ k) : LawSt w (n + 1) os' (setAt F n F') u' :=
  ⟨hs, h.only.trans ho, fun i hi k hk => by
    by_cases e : i = n
    · subst e
      rw [setAt_same] at hk
      have := hF k hk
      have := h.only.size
      omega
    · rw [setAt_ne _ _ e] at hk
      exact h.new i (by omega) k hk⟩
theorem LawSt.start (w : World) (os : Nat → Ob) (F : Nat → Nat → Prop) : LawSt w 0 os F w := ⟨Scene.start _ _ _, Only.refl _ _, fun j hj => absurd hj (by omega)⟩
theorem LawSt.lt {w u : World} {n : Nat} {os : Nat → Ob} {F : Nat → Nat → Prop} (h : LawSt w n os F u) {j k : Nat} (hj : j < n) (hk : F j k) : k < u.heap.size := (h.sc j hj).lt k hk

/-- what came, of a list of versions -/
def fillR (xs : List KV) : List KV := xs.foldl (fun R x => afterR R x.1 x.2) []
theorem fillR_snoc (xs : List KV) (x : KV) : fillR (xs ++ [x]) = afterR (fillR xs) x.1 x.2 := by simp [fillR, List.foldl_append]
theorem fillR_take {xs : List KV} {i : Nat} {x : KV} (h : xs[i]? = some x) : fillR (xs.take (i + 1)) = afterR (fillR (xs.take i)) x.1 x.2 := by
  rw [List.take_add_one, h]
  exact fillR_snoc _ _

/-- two sources; and a transaction and an account -/
def os2 (sb s2 : Sr) : Nat → Ob
  | 0 => .sr sb
  | _ => .sr s2
def os4 (sb s2 : Sr) (x : Tx) (b : Nat) (a : Ac) : Nat → Ob
  | 0 => .sr sb
  | 1 => .sr s2
  | 2 => .tx x
  | _ => .ac b a
def srI (s st : Nat) (vs : List KV) (i : Nat) (asked : Int) : Sr := ⟨s, st, fillR (vs.take i), i, 0, asked⟩
def OwRel (w : World) (vs : List KV) (n sa ta sb tb : Nat) (v : Value) (wr : World) : Prop := ∃ (i : Nat) (F : Nat → Nat → Prop), v = .int .i64 i ∧ i ≤ n ∧ LawSt w 2 (os2 (srI sa ta vs i 0) (srI sb tb vs i 0)) F wr

theorem own_e0 (key : ByteArray) (hk : 1 ≤ key.size ∧ key.size ≤ 255) : getE false [4611686018427387904, 4611686018427387904] 0 key = 0 := by
  unfold getE
  rw [if_neg (by decide), if_neg (not_not_intro hk)]
  decide
theorem own_e1 (key : ByteArray) (hk : 1 ≤ key.size ∧ key.size ≤ 255) : getE false [4611686018427387904, 4611686018427387904] 1 key = 0 := by
  unfold getE
  rw [if_neg (by decide), if_neg (not_not_intro hk)]
  decide
def owTx (t p m : Nat) (ws : List We) : Tx := ⟨t, p, m, 1, [4611686018427387904, 4611686018427387904], ws, false⟩
theorem own_get0 (t p m : Nat) (ws : List We) (s : Sr) (hs : s.H = 0) (key : ByteArray) (hk : 1 ≤ key.size ∧ key.size ≤ 255) : getA (owTx t p m ws) s 0 key = (((found (verR s.R key) 4611686018427387904).getD [], (found (verR s.R key) 4611686018427387904).isSome, 0), 1) := by
  unfold getA
  have h2 : readY (owTx t p m ws) 0 = 4611686018427387904 := rfl
  have h4 : ¬ (0 : Int) = ((owTx t p m ws).place : Int) := by show ¬ (0 : Int) = ((1 : Nat) : Int); decide
  rw [show getE (owTx t p m ws).ended (owTx t p m ws).snap 0 key = 0 from own_e0 key hk, h2, if_neg (by decide), if_neg h4, hs, if_neg (by decide)]
theorem own_get1 (t p m : Nat) (e : We) (s : Sr) (key : ByteArray) (hk : 1 ≤ key.size ∧ key.size ≤ 255) (he : e.key = key.data.toList) : getA (owTx t p m (layW [] e)) s 1 key = ((e.bs, !e.dead, 0), 0) := by
  unfold getA
  have hl : look (owTx t p m (layW [] e)).ws key.data.toList = some e := by
    show look [e] key.data.toList = some e
    rw [look_cons, if_pos he]
  rw [show getE (owTx t p m (layW [] e)).ended (owTx t p m (layW [] e)).snap 1 key = 0 from own_e1 key hk, if_neg (by decide), if_pos (show (1 : Int) = ((owTx t p m (layW [] e)).place : Int) from rfl), hl]
def owAc (pend : Int) : Ac := ⟨1048576, 1, 0, pend, 1⟩
theorem own_wr (key : ByteArray) (hk : 1 ≤ key.size ∧ key.size ≤ 255) (nb : Nat) (hn : nb ≤ 4096) (now : Int) (h0 : 0 ≤ now) (h1 : now ≤ 4351) : wrC false 2 1 1 key nb (owAc 0) ((0 : Nat) : Int) now = 0 := by
  unfold wrC
  rw [if_neg (by decide), if_neg (not_not_intro hk), if_neg (by omega), if_neg (by decide)]
  unfold Ac.doCharge owAc
  rw [if_neg (by simp), if_neg (by omega), if_neg (by simp; omega)]

theorem ints_two (w : World) (x y : Int) : IntsAt (w.alloc (.cells #[.int .i64 x, .int .i64 y] 3)) (some ⟨w.heap.size, 0, none⟩) [x, y] := fun i c hc => by
  have hb := Blk.new w 3 #[.int .i64 x, .int .i64 y]
  match i, hc with
  | 0, hc => simp at hc; subst hc; exact ⟨_, 0, rfl, by simp, hb.cellv 0 rfl⟩
  | 1, hc => simp at hc; subst hc; exact ⟨_, 0, rfl, by simp, hb.cellv 1 rfl⟩
  | i + 2, hc => simp at hc
/-- bytes that nothing turns that is told here -/
theorem LawSt.bytes {w u u' : World} {n : Nat} {os : Nat → Ob} {F : Nat → Nat → Prop} {S : Nat → Prop} (h : LawSt w n os F u) (hS : ∀ k, S k → ∃ j, j < n ∧ F j k) {v : World} {A : Option Addr} {bs : List UInt8} (hb : BytesAt v A bs) (hlo : bs ≠ [] → ∀ g off, A = some ⟨g, off, none⟩ → u.heap.size ≤ g) (ho : Only S v u') : BytesAt u' A bs :=
  hb.turn ho fun hne g off hA hs => by
    obtain ⟨j, hj, hf⟩ := hS g hs
    have := h.lt hj hf
    have := hlo hne g off hA
    omega

set_option maxRecDepth 100000 in
set_option maxHeartbeats 16000000 in
theorem own_walk (A : Option Addr) (cap : Nat) (vs : List KV) (key : ByteArray) (hkl : key.size ≤ maxLen) (Av : Option Addr) (cv : Nat) (bs : List UInt8) (dead : Bool) (w : World) (hV : VersAt w A vs) (hfew : vs.length ≤ 2513169434843) (hB : BytesAt w Av bs) :
    Calls Try.prog 4 #[.slice A vs.length cap, .string key, .slice Av bs.length cv, .bool dead] w (AnsN (.bool true) w) := by
  have HV := Lib.hid hV
  have HB := Lib.hid hB
  obtain ⟨n, hn⟩ : ∃ n, vs.length = n := ⟨_, rfl⟩
  have HN := Lib.hid hn
  rw [hn] at hfew ⊢
  obtain ⟨nb, hnb⟩ : ∃ nb, bs.length = nb := ⟨_, rfl⟩
  have HNB := Lib.hid hnb
  rw [hnb]
  obtain ⟨nk, hnk⟩ : ∃ nk, key.size = nk := ⟨_, rfl⟩
  have HNK := Lib.hid hnk
  have HKL := Lib.hid hkl
  clear hV hB hn hnb hkl
  have HFX := fun u => Lib.hid (fixedTx_is u)
  go_enter Try.func4, Try.ntmps4
  go_wp2_with fail
  refine (HFX _).out.mono ?_; rintro e w1 ⟨rfl, ho1⟩
  have HO1 := Lib.hid ho1
  clear ho1
  by_cases hb : 1 ≤ nk ∧ nk ≤ 255 ∧ nb ≤ 4096
  · obtain ⟨q1, q2, q3⟩ := hb
    have r1 : ¬ nk < 1 := by omega
    have r2 : ¬ 255 < nk := by omega
    have r3 : ¬ 4096 < nb := by omega
    go_wp2_with fail
    refine (newR w1 (fun k => ∃ j, j < 0 ∧ (fun _ _ => False : Nat → Nat → Prop) j k) (fun k ⟨j, hj, _⟩ => absurd hj (by omega))).mono ?_
    rintro e w2 ⟨rfl, T, hst, ho2, hT⟩
    obtain ⟨F0, hs0, hf0⟩ := (Scene.start (os2 (srI 0 0 vs 0 0) (srI 0 0 vs 0 0)) (fun _ _ => False) w1).addSr hst ho2 hT 0
    have hl0 := (LawSt.start w1 (os2 (srI 0 0 vs 0 0) (srI 0 0 vs 0 0)) (fun _ _ => False)).more hs0 (ho2.alloc _) hf0
    obtain ⟨sa, esa⟩ : ∃ s, w2.heap.size = s := ⟨_, rfl⟩
    obtain ⟨ta, est0⟩ : ∃ s, w1.heap.size + 1 = s := ⟨_, rfl⟩
    rw [esa, est0] at hl0
    obtain ⟨w3, hw3⟩ : ∃ w3, w2.alloc (.cells #[.pointer (some ⟨ta, 0, none⟩), .int .i64 0, .int .i64 0] 29) = w3 := ⟨_, rfl⟩
    rw [hw3] at hl0
    have HW3 := Lib.hid hw3
    have HL0 := Lib.hid hl0
    clear hst ho2 hT hs0 hf0 hl0 hw3
    go_wp2_with fail
    rw [HW3.out]
    refine (newR w3 (fun k => ∃ j, j < 1 ∧ (setAt (fun _ _ => False : Nat → Nat → Prop) 0 F0) j k) (fun k ⟨j, hj, hk⟩ => HL0.out.lt hj hk)).mono ?_
    rintro e w4 ⟨rfl, T1, hst, ho2, hT⟩
    obtain ⟨F1, hs0, hf0⟩ := HL0.out.sc.addSr hst ho2 hT 0
    have hl1 := HL0.out.more hs0 (ho2.alloc _) hf0
    obtain ⟨sb, es1⟩ : ∃ s, w4.heap.size = s := ⟨_, rfl⟩
    obtain ⟨tb, est1⟩ : ∃ s, w3.heap.size + 1 = s := ⟨_, rfl⟩
    rw [es1, est1] at hl1
    obtain ⟨w5, hw5⟩ : ∃ w5, w4.alloc (.cells #[.pointer (some ⟨tb, 0, none⟩), .int .i64 0, .int .i64 0] 29) = w5 := ⟨_, rfl⟩
    rw [hw5] at hl1
    have HW5 := Lib.hid hw5
    have HL1 := Lib.hid (hl1.congr (os' := os2 (srI sa ta vs 0 0) (srI sb tb vs 0 0)) (fun i hi => match i, hi with | 0, _ => rfl | 1, _ => rfl | n + 2, h => absurd h (by omega)))
    clear hst ho2 hT hs0 hf0 hl1 hw5 HL0
    go_wp2_with fail
    rw [HW5.out]
    go_loopw [47] (fun v wr => OwRel w1 vs n sa ta sb tb v wr) (fun v _ => n - (intOf v).toNat)
    case atStart => exact ⟨0, _, rfl, by omega, HL1.out⟩
    case round =>
      obtain ⟨i, F, rfl, hi, hl⟩ := hrel
      have HL := Lib.hid hl
      clear hl
      by_cases hlt : i < n
      · have hx : vs[i]? = some (vs[i]'(by rw [HN.out]; exact hlt)) := List.getElem?_eq_getElem _
        generalize vs[i]'(by rw [HN.out]; exact hlt) = x at hx
        obtain ⟨g, off, Ab, cb, rfl, hg, d0, d1, d2, d3, hby, hks⟩ := (HV.out.keep (HO1.out.trans HL.out.only)) i x hx
        have HTK := Lib.hid (fillR_take hx)
        obtain ⟨xk, st, xb, xd⟩ := x
        simp only at d0 d1 d2 d3 hby hks
        obtain ⟨nn, hnn⟩ : ∃ nn, xb.length = nn := ⟨_, rfl⟩
        rw [hnn] at d2
        have HNN := Lib.hid hnn
        obtain ⟨hv0, hv1, hv2, hv3, hvV⟩ : True ∧ True ∧ True ∧ True ∧ True := ⟨trivial, trivial, trivial, trivial, trivial⟩
        have HBY0 := Lib.hid (show BytesAt w1 Ab xb from by
          obtain ⟨g2, off2, Ab2, cb2, hA2, hg2, e0, e1, e2, e3, hby2, _⟩ := (HV.out.keep HO1.out) i _ hx
          injection hA2 with hA2
          injection hA2 with h1 h2 _
          subst h1; subst h2
          have h3 := (HL.out.only.cell (p := ⟨g, off + i * 4 + 2, none⟩) hg2 (fun h => h)).trans e2
          rw [d2] at h3
          injection h3 with h3
          injection h3 with h4 _ _
          rw [h4]
          exact hby2)
        have hB12 := Blk.new wr 31 (verC xk st (.slice Ab nn cb) xd)
        have hwr := HL.out.only.size
        obtain ⟨b12, eb12⟩ : ∃ b, wr.heap.size = b := ⟨_, rfl⟩
        obtain ⟨W9, hW9⟩ : ∃ W9, wr.alloc (.cells (verC xk st (.slice Ab nn cb) xd) 31) = W9 := ⟨_, rfl⟩
        rw [hW9, eb12] at hB12
        have HL9 := Lib.hid (HL.out.keep (show Only NoneOf wr W9 by rw [← hW9]; exact (Only.refl _ _).alloc _))
        have HB12 := Lib.hid hB12
        have HW9 := Lib.hid hW9
        have HB9 := Lib.hid (show ∀ j, j < 2 → ¬ F j b12 from fun j hj hf => by have := HL.out.lt hj hf; omega)
        obtain ⟨T0, hsr0, hF0⟩ := HL9.out.sc.sr (i := 0) (by decide) rfl
        have HC0 := Lib.hid (show Blk W9 sa 29 #[.pointer (some ⟨ta, 0, none⟩), .int .i64 0, .int .i64 0] from hsr0.blk)
        clear hby hx hB12 hW9 hnn hsr0 hF0 hv0 hv1 hv2 hv3 hvV
        go_upto_region 9 with (fail)
        rw [HW9.out]
        refine wp_region_head 5 156 (ConstT fun i => match i with | 0 => .pointer (some ⟨sa, 0, none⟩) | 1 => .pointer (some ⟨sa, 0, none⟩) | 2 => .pointer (some ⟨sa, 0, none⟩) | 3 => .pointer (some ⟨ta, 0, none⟩) | _ => .agg (verC xk st (.slice Ab nn cb) xd)) (fun _ => false) rfl (by kernel_rfl) (by kernel_rfl) (fun _ _ _ _ h _ => h) (fun _ _ _ h => by cases h) ?_ ?_
        · intro i o hi ho a u hu hs ht
          have e9 : a.tmps.getD 9 undef = .pointer (some ⟨sa, 0, none⟩) := hs 9 (of_decide_eq_true (by kernel_rfl))
          have e12 : a.tmps.getD 12 undef = .pointer (some ⟨b12, 0, none⟩) := hs 12 (of_decide_eq_true (by kernel_rfl))
          have FB := HC0.out.only hu (fun h => h)
          have c0 := FB.cellv 0 rfl
          have : i = 0 ∨ i = 1 ∨ i = 2 ∨ i = 3 ∨ i = 4 := by omega
          rcases this with rfl | rfl | rfl | rfl | rfl
          · obtain rfl := Option.some.inj (ho : some _ = some o)
            exact left_value (.pointer (some ⟨sa, 0, none⟩)) (by simp [go_sem, e9]) rfl rfl
          · obtain rfl := Option.some.inj (ho : some _ = some o)
            have s0 : a.tmps.getD 51 undef = .pointer (some ⟨sa, 0, none⟩) := ht 0 (by omega) (by kernel_rfl)
            exact left_value (.pointer (some ⟨sa, 0, none⟩)) (by simp [go_sem, s0]) rfl rfl
          · obtain rfl := Option.some.inj (ho : some _ = some o)
            have s1 : a.tmps.getD 52 undef = .pointer (some ⟨sa, 0, none⟩) := ht 1 (by omega) (by kernel_rfl)
            exact left_value (.pointer (some ⟨sa, 0, none⟩)) (by simp [go_sem, s1]) rfl rfl
          · obtain rfl := Option.some.inj (ho : some _ = some o)
            have s2 : a.tmps.getD 53 undef = .pointer (some ⟨sa, 0, none⟩) := ht 2 (by omega) (by kernel_rfl)
            exact left_value (.pointer (some ⟨ta, 0, none⟩)) (by simp [go_sem, s2, c0]) rfl rfl
          · obtain rfl := Option.some.inj (ho : some _ = some o)
            exact left_load 31 (.tmp 12) b12 31 _ _ rfl e12 (HB12.out.only hu (fun h => h)) Try.underlying31 rfl infoV rfl rfl
        · intro V' u hu hV' _
          have v0 : V' 0 = .pointer (some ⟨sa, 0, none⟩) := hV' 0 (by omega)
          have v1 : V' 1 = .pointer (some ⟨sa, 0, none⟩) := hV' 1 (by omega)
          have v2 : V' 2 = .pointer (some ⟨sa, 0, none⟩) := hV' 2 (by omega)
          have v3 : V' 3 = .pointer (some ⟨ta, 0, none⟩) := hV' 3 (by omega)
          have v4 : V' 4 = .agg (verC xk st (.slice Ab nn cb) xd) := hV' 4 (by omega)
          change wpList _ _ _ _ (Act.put (Act.put (Act.put (Act.put (Act.put _ (some 51) (V' 0)) (some 52) (V' 1)) (some 53) (V' 2)) (some 54) (V' 3)) (some 55) (V' 4)) _
          rw [v0, v1, v2, v3, v4]
          simp only [Act.put, List.setIfInBounds_toArray, List.set_cons_zero, List.set_cons_succ]
          simp only [List.drop_succ_cons, List.drop_zero]
          clear hV' v0 v1 v2 v3 v4
          have HLu := Lib.hid (HL9.out.keep hu)
          have HB12u := Lib.hid (HB12.out.only hu (fun h => h))
          have HAP := Lib.hid (sc_apply HLu.out.sc (j := 0) (by decide) rfl (show i < NMAX by unfold NMAX; omega) xk st Ab nn cb xd xb HNN.out (HBY0.out.keep HLu.out.only))
          clear hu
          go_wp2_with fail
          refine HAP.out.mono ?_; rintro e w7 ⟨rfl, F', hs7, ho7, hF7⟩
          have HL7 := Lib.hid ((HLu.out.grow (by decide) hs7 ho7 hF7).congr (os' := os2 (srI sa ta vs (i + 1) 0) (srI sb tb vs i 0)) (fun j hj => match j, hj with | 0, _ => by show Ob.sr _ = Ob.sr _; rw [srI, srI, HTK.out] | 1, _ => rfl | n + 2, h => absurd h (by omega)))
          have HB12v := Lib.hid (HB12u.out.only ho7 (HB9.out 0 (by decide)))
          obtain ⟨T1', hsr1, hF1'⟩ := HL7.out.sc.sr (i := 1) (by decide) rfl
          have HC1 := Lib.hid (show Blk w7 sb 29 #[.pointer (some ⟨tb, 0, none⟩), .int .i64 0, .int .i64 0] from hsr1.blk)
          clear hs7 ho7 hF7 hsr1 hF1' HAP
          go_upto_region 10 with (fail)
          refine wp_region_head 5 156 (ConstT fun i => match i with | 0 => .pointer (some ⟨sb, 0, none⟩) | 1 => .pointer (some ⟨sb, 0, none⟩) | 2 => .pointer (some ⟨sb, 0, none⟩) | 3 => .pointer (some ⟨tb, 0, none⟩) | _ => .agg (verC xk st (.slice Ab nn cb) xd)) (fun _ => false) rfl (by kernel_rfl) (by kernel_rfl) (fun _ _ _ _ h _ => h) (fun _ _ _ h => by cases h) ?_ ?_
          · intro i o hi ho a u hu hs ht
            have e10 : a.tmps.getD 10 undef = .pointer (some ⟨sb, 0, none⟩) := hs 10 (of_decide_eq_true (by kernel_rfl))
            have e12 : a.tmps.getD 12 undef = .pointer (some ⟨b12, 0, none⟩) := hs 12 (of_decide_eq_true (by kernel_rfl))
            have FB := HC1.out.only hu (fun h => h)
            have c0 := FB.cellv 0 rfl
            have : i = 0 ∨ i = 1 ∨ i = 2 ∨ i = 3 ∨ i = 4 := by omega
            rcases this with rfl | rfl | rfl | rfl | rfl
            · obtain rfl := Option.some.inj (ho : some _ = some o)
              exact left_value (.pointer (some ⟨sb, 0, none⟩)) (by simp [go_sem, e10]) rfl rfl
            · obtain rfl := Option.some.inj (ho : some _ = some o)
              have s0 : a.tmps.getD 57 undef = .pointer (some ⟨sb, 0, none⟩) := ht 0 (by omega) (by kernel_rfl)
              exact left_value (.pointer (some ⟨sb, 0, none⟩)) (by simp [go_sem, s0]) rfl rfl
            · obtain rfl := Option.some.inj (ho : some _ = some o)
              have s1 : a.tmps.getD 58 undef = .pointer (some ⟨sb, 0, none⟩) := ht 1 (by omega) (by kernel_rfl)
              exact left_value (.pointer (some ⟨sb, 0, none⟩)) (by simp [go_sem, s1]) rfl rfl
            · obtain rfl := Option.some.inj (ho : some _ = some o)
              have s2 : a.tmps.getD 59 undef = .pointer (some ⟨sb, 0, none⟩) := ht 2 (by omega) (by kernel_rfl)
              exact left_value (.pointer (some ⟨tb, 0, none⟩)) (by simp [go_sem, s2, c0]) rfl rfl
            · obtain rfl := Option.some.inj (ho : some _ = some o)
              exact left_load 31 (.tmp 12) b12 31 _ _ rfl e12 (HB12v.out.only hu (fun h => h)) Try.underlying31 rfl infoV rfl rfl
          · intro V' u2 hu hV' _
            have v0 : V' 0 = .pointer (some ⟨sb, 0, none⟩) := hV' 0 (by omega)
            have v1 : V' 1 = .pointer (some ⟨sb, 0, none⟩) := hV' 1 (by omega)
            have v2 : V' 2 = .pointer (some ⟨sb, 0, none⟩) := hV' 2 (by omega)
            have v3 : V' 3 = .pointer (some ⟨tb, 0, none⟩) := hV' 3 (by omega)
            have v4 : V' 4 = .agg (verC xk st (.slice Ab nn cb) xd) := hV' 4 (by omega)
            change wpList _ _ _ _ (Act.put (Act.put (Act.put (Act.put (Act.put _ (some 57) (V' 0)) (some 58) (V' 1)) (some 59) (V' 2)) (some 60) (V' 3)) (some 61) (V' 4)) _
            rw [v0, v1, v2, v3, v4]
            simp only [Act.put, List.setIfInBounds_toArray, List.set_cons_zero, List.set_cons_succ]
            simp only [List.drop_succ_cons, List.drop_zero]
            clear hV' v0 v1 v2 v3 v4
            have HLx := Lib.hid (HL7.out.keep hu)
            have HAP := Lib.hid (sc_apply HLx.out.sc (j := 1) (by decide) rfl (show i < NMAX by unfold NMAX; omega) xk st Ab nn cb xd xb HNN.out (HBY0.out.keep HLx.out.only))
            clear hu
            go_wp2_with fail
            refine HAP.out.mono ?_; rintro e w8 ⟨rfl, F2, hs8, ho8, hF8⟩
            have HL8 := Lib.hid ((HLx.out.grow (by decide) hs8 ho8 hF8).congr (os' := os2 (srI sa ta vs (i + 1) 0) (srI sb tb vs (i + 1) 0)) (fun j hj => match j, hj with | 0, _ => rfl | 1, _ => by show Ob.sr _ = Ob.sr _; rw [srI, srI, HTK.out] | n + 2, h => absurd h (by omega)))
            clear hs8 ho8 hF8 HAP
            go_wp2_with fail
            exact ⟨⟨i + 1, _, by rw [show ((i + 1 : Nat) : Int) = (i : Int) + 1 by omega], by omega, HL8.out⟩, by simp [intOf]; omega⟩
      · obtain rfl : i = n := by omega
        have hall : vs.take i = vs := by rw [← HN.out, List.take_length]
        have HKB := Lib.hid (show 1 ≤ key.size ∧ key.size ≤ 255 from ⟨by have := HNK.out; omega, by have := HNK.out; omega⟩)
        have hl2 : LawSt w1 2 (os2 ⟨sa, ta, fillR vs, i, 0, 0⟩ ⟨sb, tb, fillR vs, i, 0, 0⟩) F wr := HL.out.congr (fun j hj => match j, hj with | 0, _ => by show Ob.sr _ = Ob.sr _; rw [srI, hall] | 1, _ => by show Ob.sr _ = Ob.sr _; rw [srI, hall] | n + 2, h => absurd h (by omega))
        have hl2' := hl2.keep ((Only.refl NoneOf wr).alloc (.cells #[.int .i64 4611686018427387904, .int .i64 4611686018427387904] 3))
        have HTN := Lib.hid (txNew_ok (wr.alloc (.cells #[.int .i64 4611686018427387904, .int .i64 4611686018427387904] 3)) (fun k => ∃ j, j < 2 ∧ F j k) (fun k ⟨j, hj, hk⟩ => hl2'.lt hj hk) 1 _ 2 [4611686018427387904, 4611686018427387904] (ints_two wr _ _) 4611686018427387904 rfl (by decide) (by decide))
        have HL2 := Lib.hid hl2'
        clear hl2 hl2' HL hall
        go_wp2_with fail
        refine HTN.out.mono ?_
        rintro e w3 ⟨t, p, m, rfl, ht, ho3, ht1, ht2, ht3⟩
        obtain ⟨F2, hs3, hf2⟩ := HL2.out.sc.addTx ht ho3 ht1 ht2 ht3
        have HL3 := Lib.hid (HL2.out.more hs3 ho3 hf2)
        clear ht ho3 ht1 ht2 ht3 hs3 hf2 HL2 HTN
        go_wp2_with fail
        refine (Qa.new_ok 1048576 1 0 0 0 w3 (by decide) (by decide) (by decide) (by decide)).mono ?_
        rintro e w4 ⟨b, rfl, hb4, ha, ho4⟩
        obtain ⟨F3, hs4, hf3⟩ := HL3.out.sc.addAc ha (by constructor <;> decide) ho4 hb4
        have HL4 := Lib.hid (HL3.out.more hs4 ho4 hf3)
        have HBB := Lib.hid (Nat.le_trans HL3.out.only.size hb4)
        clear ha ho4 hb4 hs4 hf3 HL3
        go_wp2_with fail
        refine (sc_begin HL4.out.sc (j := 3) (by decide) rfl).mono ?_
        rintro e w5 ⟨he, hs5, ho5⟩
        rw [show (Ac.doBegin ⟨1048576, 1, 0, 0, 0⟩).2 = 0 from rfl] at he
        subst he
        obtain ⟨FF, hFF⟩ : ∃ FF, setAt (setAt F 2 F2) 3 F3 = FF := ⟨_, rfl⟩
        have HL5 := Lib.hid (show LawSt w1 4 (os4 ⟨sa, ta, fillR vs, i, 0, 0⟩ ⟨sb, tb, fillR vs, i, 0, 0⟩ (owTx t p m []) b (owAc 0)) FF w5 from by
          rw [← hFF]
          exact (HL4.out.turn hs5 ho5 (fun k hk => ⟨3, by decide, hk⟩)).congr (fun j hj => match j, hj with | 0, _ => rfl | 1, _ => rfl | 2, _ => rfl | 3, _ => rfl | n + 4, h => absurd h (by omega)))
        have HG := sc_get HL5.out.sc (i := 2) (j := 1) (by decide) (by decide) (by decide) rfl rfl (show (0 : Int) < 4611686018427387904 by decide) 0 key HKL.out
        rw [show getA (owTx t p m []) ⟨sb, tb, fillR vs, i, 0, 0⟩ 0 key = _ from own_get0 t p m [] _ rfl key HKB.out] at HG
        obtain ⟨f, hf⟩ : ∃ f, found (verR (fillR vs) key) 4611686018427387904 = f := ⟨_, rfl⟩
        have HF := Lib.hid hf
        simp only [hf] at HG
        replace HG := Lib.hid HG
        clear hs5 ho5 HL4 hFF hf
        go_wp2_with fail
        refine HG.out.mono ?_
        rintro e w6 ⟨⟨v6, rfl, hr6⟩, hs6, ho6⟩
        obtain ⟨A6, c6, rfl, hb6⟩ := hr6.at
        have hlo6 : f.getD [] ≠ [] → ∀ g off, A6 = some ⟨g, off, none⟩ → w5.heap.size ≤ g := fun _ g off hA => (ownsRow_lt hr6 (g := g) (by rw [hA]; rfl)).1
        have HL6 := Lib.hid (show LawSt w1 4 (os4 ⟨sa, ta, fillR vs, i, 0, 0⟩ ⟨sb, tb, fillR vs, i, 0, 1⟩ (owTx t p m []) b (owAc 0)) FF w6 from
          (HL5.out.turn hs6 ho6 (fun k hk => ⟨1, by decide, ((HL5.out.sc.sr (i := 1) (by decide) rfl).choose_spec.2 k).2 (.inl hk)⟩)).congr (fun j hj => match j, hj with | 0, _ => rfl | 1, _ => rfl | 2, _ => rfl | 3, _ => rfl | n + 4, h => absurd h (by omega)))
        have HB6 := Lib.hid hb6
        have HLO6 := Lib.hid hlo6
        obtain ⟨n6, hn6⟩ : ∃ n6, (f.getD []).length = n6 := ⟨_, rfl⟩
        have HN6 := Lib.hid hn6
        rw [hn6]
        clear HG hr6 hs6 ho6 hb6 hlo6 hn6
        have HWR : ∀ (nb' : Nat) (now : Int), nb' ≤ 4096 → 0 ≤ now → now ≤ 4351 → Hid (wrC false 2 1 1 key nb' (owAc 0) ((0 : Nat) : Int) now = 0) := fun nb' now h1 h2 h3 => Lib.hid (own_wr key HKB.out nb' h1 now h2 h3)
        have hkz : key.size = nk := HNK.out
        cases dead with
        | true =>
          have hc : delC (owTx t p m []) (owAc 0) 1 key = 0 := (HWR 0 key.size (by omega) (by omega) (by omega)).out
          have HD := sc_del HL6.out.sc (i := 2) (j := 3) (by decide) (by decide) (by decide) rfl rfl (show (0 : Nat) ≤ 1048576 by decide) 1 key HKL.out
          rw [hc] at HD
          replace HD := Lib.hid HD
          clear hc HWR hkz
          go_wp2_with fail
          refine HD.out.mono ?_
          rintro e w7 ⟨rfl, hs7, ho7⟩
          have hS7 : ∀ k, (FF 2 k ∨ FF 3 k) → ∃ j, j < 4 ∧ FF j k := fun k hk => hk.elim (fun h => ⟨2, by decide, h⟩) (fun h => ⟨3, by decide, h⟩)
          have HL7 := Lib.hid (show LawSt w1 4 (os4 ⟨sa, ta, fillR vs, i, 0, 0⟩ ⟨sb, tb, fillR vs, i, 0, 1⟩ (owTx t p m (layW [] ⟨key.data.toList, [], true⟩)) b _) FF w7 from
            (HL6.out.turn hs7 ho7 hS7).congr (fun j hj => match j, hj with | 0, _ => rfl | 1, _ => rfl | 2, _ => rfl | 3, _ => rfl | n + 4, h => absurd h (by omega)))
          have HB7 := Lib.hid (HL5.out.bytes hS7 HB6.out HLO6.out ho7)
          have HG := sc_get HL7.out.sc (i := 2) (j := 0) (by decide) (by decide) (by decide) rfl rfl (show (0 : Int) < 4611686018427387904 by decide) 1 key HKL.out
          rw [own_get1 t p m ⟨key.data.toList, [], true⟩ _ key HKB.out rfl] at HG
          replace HG := Lib.hid HG
          clear hs7 ho7 hS7 HD
          go_wp2_with fail
          refine HG.out.mono ?_
          rintro e w8 ⟨⟨v8, rfl, hr8⟩, hs8, ho8⟩
          obtain ⟨A8, c8, rfl, _⟩ := hr8.at
          have hS8 : ∀ k, k = sa → ∃ j, j < 4 ∧ FF j k := fun k hk => ⟨0, by decide, ((HL7.out.sc.sr (i := 0) (by decide) rfl).choose_spec.2 k).2 (.inl hk)⟩
          have HL8 := Lib.hid (show LawSt w1 4 (os4 ⟨sa, ta, fillR vs, i, 0, 0⟩ ⟨sb, tb, fillR vs, i, 0, 1⟩ (owTx t p m (layW [] ⟨key.data.toList, [], true⟩)) b _) FF w8 from
            (HL7.out.turn hs8 ho8 hS8).congr (fun j hj => match j, hj with | 0, _ => rfl | 1, _ => rfl | 2, _ => rfl | 3, _ => rfl | n + 4, h => absurd h (by omega)))
          have HB8 := Lib.hid (HL5.out.bytes hS8 HB7.out HLO6.out ho8)
          have HG3 := sc_get HL8.out.sc (i := 2) (j := 1) (by decide) (by decide) (by decide) rfl rfl (show (1 : Int) < 4611686018427387904 by decide) 0 key HKL.out
          rw [show getA (owTx t p m (layW [] ⟨key.data.toList, [], true⟩)) ⟨sb, tb, fillR vs, i, 0, 1⟩ 0 key = _ from own_get0 t p m _ _ rfl key HKB.out] at HG3
          simp only [HF.out] at HG3
          replace HG3 := Lib.hid HG3
          clear hr8 hs8 ho8 hS8 HG
          go_wp2_with fail
          refine HG3.out.mono ?_
          rintro e wa ⟨⟨va, rfl, hra⟩, hsa, hoa⟩
          obtain ⟨Aa, ca, rfl, hba⟩ := hra.at
          have hSa : ∀ k, k = sb → ∃ j, j < 4 ∧ FF j k := fun k hk => ⟨1, by decide, ((HL8.out.sc.sr (i := 1) (by decide) rfl).choose_spec.2 k).2 (.inl hk)⟩
          have HLa := Lib.hid (HL8.out.turn hsa hoa hSa)
          have HBa := HL5.out.bytes hSa HB8.out HLO6.out hoa
          have HEQ2 := Lib.hid (equal_is wa Aa A6 n6 n6 ca c6 (f.getD []) (f.getD []) HN6.out HN6.out hba HBa (by
            have h1 := HN6.out
            have h2 := HF.out
            cases f with
            | none =>
              have h5 : 0 = n6 := h1
              omega
            | some xs =>
              obtain ⟨z, hz, rfl⟩ := found_mem h2
              obtain ⟨T', hsr, _⟩ := HL8.out.sc.sr (i := 1) (by decide) rfl
              have h4 : z.bs.length ≤ 4096 := hsr.sto.good.bs _ (verR_mem.1 hz)
              have h5 : z.bs.length = n6 := h1
              omega))
          rw [decide_eq_true rfl] at HEQ2
          have en6 : (f.getD []).length = n6 := HN6.out
          clear hra hsa hoa hSa hba HBa HG3
          simp only [en6]
          go_wp2_with fail
          refine HEQ2.out.mono ?_
          rintro e wb ⟨rfl, mb, rfl⟩
          go_wp2_with fail
          go_ret
          exact ⟨rfl, (HO1.out.trans HLa.out.only).drewN _⟩
        | false =>
          have hc : putC (owTx t p m []) (owAc 0) 1 key nb = 0 := (HWR nb ((key.size : Int) + nb) (by omega) (by omega) (by omega)).out
          have HD := sc_put HL6.out.sc (i := 2) (j := 3) (by decide) (by decide) (by decide) rfl rfl (show (0 : Nat) ≤ 1048576 by decide) 1 key HKL.out Av nb cv bs HNB.out (HB.out.keep (HO1.out.trans HL6.out.only)) (fun hne g off hA e => by
            have h1 := (HB.out.keep HO1.out).lt hne hA
            have := HBB.out
            omega) (by omega) (by omega)
          rw [hc] at HD
          replace HD := Lib.hid HD
          clear hc HWR hkz
          go_wp2_with fail
          refine HD.out.mono ?_
          rintro e w7 ⟨rfl, hs7, ho7⟩
          have hS7 : ∀ k, (FF 2 k ∨ FF 3 k) → ∃ j, j < 4 ∧ FF j k := fun k hk => hk.elim (fun h => ⟨2, by decide, h⟩) (fun h => ⟨3, by decide, h⟩)
          have HL7 := Lib.hid (show LawSt w1 4 (os4 ⟨sa, ta, fillR vs, i, 0, 0⟩ ⟨sb, tb, fillR vs, i, 0, 1⟩ (owTx t p m (layW [] ⟨key.data.toList, bs, false⟩)) b _) FF w7 from
            (HL6.out.turn hs7 ho7 hS7).congr (fun j hj => match j, hj with | 0, _ => rfl | 1, _ => rfl | 2, _ => rfl | 3, _ => rfl | n + 4, h => absurd h (by omega)))
          have HB7 := Lib.hid (HL5.out.bytes hS7 HB6.out HLO6.out ho7)
          have HG := sc_get HL7.out.sc (i := 2) (j := 0) (by decide) (by decide) (by decide) rfl rfl (show (0 : Int) < 4611686018427387904 by decide) 1 key HKL.out
          rw [own_get1 t p m ⟨key.data.toList, bs, false⟩ _ key HKB.out rfl] at HG
          replace HG := Lib.hid HG
          clear hs7 ho7 hS7 HD
          go_wp2_with fail
          refine HG.out.mono ?_
          rintro e w8 ⟨⟨v8, rfl, hr8⟩, hs8, ho8⟩
          obtain ⟨A8, c8, rfl, hb8⟩ := hr8.at
          have hS8 : ∀ k, k = sa → ∃ j, j < 4 ∧ FF j k := fun k hk => ⟨0, by decide, ((HL7.out.sc.sr (i := 0) (by decide) rfl).choose_spec.2 k).2 (.inl hk)⟩
          have HL8' := Lib.hid (show LawSt w1 4 (os4 ⟨sa, ta, fillR vs, i, 0, 0⟩ ⟨sb, tb, fillR vs, i, 0, 1⟩ (owTx t p m (layW [] ⟨key.data.toList, bs, false⟩)) b _) FF w8 from
            (HL7.out.turn hs8 ho8 hS8).congr (fun j hj => match j, hj with | 0, _ => rfl | 1, _ => rfl | 2, _ => rfl | 3, _ => rfl | n + 4, h => absurd h (by omega)))
          have HB8' := Lib.hid (HL5.out.bytes hS8 HB7.out HLO6.out ho8)
          have HEQ := Lib.hid (equal_is w8 A8 Av nb nb c8 cv bs bs HNB.out HNB.out hb8 (HB.out.keep (HO1.out.trans HL8'.out.only)) (by omega))
          rw [decide_eq_true rfl] at HEQ
          have ebn : bs.length = nb := HNB.out
          clear hr8 hs8 ho8 hS8 HG hb8
          simp only [ebn]
          go_wp2_with fail
          refine HEQ.out.mono ?_
          rintro e w9 ⟨rfl, mm, rfl⟩
          have HL8 := Lib.hid (HL8'.out.keep ((Only.refl NoneOf w8).drewN mm))
          have HB8 := Lib.hid (HB8'.out.keep ((Only.refl NoneOf w8).drewN mm))
          have HG3 := sc_get HL8.out.sc (i := 2) (j := 1) (by decide) (by decide) (by decide) rfl rfl (show (1 : Int) < 4611686018427387904 by decide) 0 key HKL.out
          rw [show getA (owTx t p m (layW [] ⟨key.data.toList, bs, false⟩)) ⟨sb, tb, fillR vs, i, 0, 1⟩ 0 key = _ from own_get0 t p m _ _ rfl key HKB.out] at HG3
          simp only [HF.out] at HG3
          replace HG3 := Lib.hid HG3
          clear HEQ ebn
          go_wp2_with fail
          refine HG3.out.mono ?_
          rintro e wa ⟨⟨va, rfl, hra⟩, hsa, hoa⟩
          obtain ⟨Aa, ca, rfl, hba⟩ := hra.at
          have hSa : ∀ k, k = sb → ∃ j, j < 4 ∧ FF j k := fun k hk => ⟨1, by decide, ((HL8.out.sc.sr (i := 1) (by decide) rfl).choose_spec.2 k).2 (.inl hk)⟩
          have HLa := Lib.hid (HL8.out.turn hsa hoa hSa)
          have HBa := HL5.out.bytes hSa HB8.out HLO6.out hoa
          have HEQ2 := Lib.hid (equal_is wa Aa A6 n6 n6 ca c6 (f.getD []) (f.getD []) HN6.out HN6.out hba HBa (by
            have h1 := HN6.out
            have h2 := HF.out
            cases f with
            | none =>
              have h5 : 0 = n6 := h1
              omega
            | some xs =>
              obtain ⟨z, hz, rfl⟩ := found_mem h2
              obtain ⟨T', hsr, _⟩ := HL8.out.sc.sr (i := 1) (by decide) rfl
              have h4 : z.bs.length ≤ 4096 := hsr.sto.good.bs _ (verR_mem.1 hz)
              have h5 : z.bs.length = n6 := h1
              omega))
          rw [decide_eq_true rfl] at HEQ2
          have en6 : (f.getD []).length = n6 := HN6.out
          clear hra hsa hoa hSa hba HBa HG3
          simp only [en6]
          go_wp2_with fail
          refine HEQ2.out.mono ?_
          rintro e wb ⟨rfl, mb, rfl⟩
          go_wp2_with fail
          go_ret
          exact ⟨rfl, (HO1.out.trans HLa.out.only).drewN _⟩
  · by_cases h1 : nk < 1
    · go_wp2_with fail
      go_ret
      exact ⟨rfl, HO1.out⟩
    · by_cases h2 : 255 < nk
      · go_wp2_with fail
        go_ret
        exact ⟨rfl, HO1.out⟩
      · have h3 : 4096 < nb := by omega
        clear hb
        go_wp2_with fail
        go_ret
        exact ⟨rfl, HO1.out⟩

end Go.Proofs.Ytbhihbhjmmeibaa

/-
  Layer 17: Put of a value of any length.
-/
namespace Go.Proofs.Ytbhihbhjmmeibaa
open Go.RowKit Go.Shelf
open Qa (Ac AcIs AcPost)

set_option maxRecDepth 100000 in
set_option maxHeartbeats 200000 in
theorem txPut_any (w : World) (t p m place N : Nat) (snap : List Int) (ws : List We) (ended : Bool) (U : Nat → Prop) (h : TxR w t p m U place snap ws ended N) (hN : N < 1048577) (b : Nat) (s : Ac) (ha : AcIs w b s) (ok : s.Ok) (hb : U b)
    (x : Int) (key : ByteArray) (hkl : key.size ≤ maxLen) (Av : Option Addr) (nb cv : Nat) (bs : List UInt8) (hnb : bs.length = nb) (hby : BytesAt w Av bs) (hvb : bs ≠ [] → ∀ g off, Av = some ⟨g, off, none⟩ → g ≠ b) (now : Int) (hnow : wrap64 ((key.size : Int) + nb) = now) :
    Calls Try.prog 15 #[.pointer (some ⟨t, 0, none⟩), .int .i64 x, .string key, .slice Av nb cv, .pointer (some ⟨b, 0, none⟩)] w
      (WrPost t p m place N snap ws ended U b s (wrC ended snap.length place x key nb s (weightW ws key.data.toList : Nat) now) ⟨key.data.toList, bs, false⟩ (weightW ws key.data.toList : Nat) now w) := by
  have hbt := h.ult b hb
  have B5 := ((Blk.new w 34 #[.pointer (some ⟨t, 0, none⟩)]).alloc (.cells #[.string key] 9)).alloc (.cells #[.slice Av nb cv] 24)
  have B7 := (Blk.new' (w.alloc (.cells #[.pointer (some ⟨t, 0, none⟩)] 34)) 9 #[.string key] (n := w.heap.size + 1) (by simp)).alloc (.cells #[.slice Av nb cv] 24)
  have B8 := Blk.new' ((w.alloc (.cells #[.pointer (some ⟨t, 0, none⟩)] 34)).alloc (.cells #[.string key] 9)) 24 #[.slice Av nb cv] (n := w.heap.size + 1 + 1) (by simp)
  have HO := Lib.hid ((((Only.refl NoneOf w).alloc (.cells #[.pointer (some ⟨t, 0, none⟩)] 34)).alloc (.cells #[.string key] 9)).alloc (.cells #[.slice Av nb cv] 24))
  obtain ⟨w3, hw3⟩ : ∃ w3, ((w.alloc (.cells #[.pointer (some ⟨t, 0, none⟩)] 34)).alloc (.cells #[.string key] 9)).alloc (.cells #[.slice Av nb cv] 24) = w3 := ⟨_, rfl⟩
  have HW3 := Lib.hid hw3
  rw [hw3] at B5 B7 B8 HO
  have H3 := h.keep HO.out
  have hW := write_is w3 t p m place N snap ws ended U H3 b s (AcIs.only ha HO.out (fun h => h)) ok hb x key hkl Av nb cv now ⟨key.data.toList, bs, false⟩ 41 #[.pointer (some ⟨w.heap.size, 0, none⟩), .pointer (some ⟨w.heap.size + 1, 0, none⟩), .pointer (some ⟨w.heap.size + 1 + 1, 0, none⟩)] (fun _ _ => by kernel_rfl) (fun hk hl u hu =>
    put1_is u t p m place N snap ws ended U (H3.other hu (U' := U) (fun k hk => by rw [hk]; exact hb) (fun k hk => ⟨Nat.lt_of_lt_of_le (H3.ult k hk).1 hu.size, .inl hk⟩)) hN _ _ _ key Av nb cv bs (B5.only hu (by omega)) (B7.only hu (by omega)) (B8.only hu (by omega)) hnb ((hby.keep HO.out).turn hu (fun hne g off hA => hvb hne g off hA)) hl hk)
  have HWR := Lib.hid hW
  have k0 := B5.cellv 0 rfl
  have k1 := B7.cellv 0 rfl
  have k2 := B8.cellv 0 rfl
  obtain ⟨nk, hnk⟩ : ∃ nk, key.size = nk := ⟨_, rfl⟩
  rw [hnk] at hnow
  clear h ha ok hkl hby hvb hW H3 hw3 B5 B7 B8 hbt
  go_enter Try.func15, Try.ntmps15
  go_wp2_with fail
  rw [HW3.out]
  refine HWR.out.mono ?_
  rintro e w4 hp
  have HPP := Lib.hid hp
  obtain ⟨rfl, _⟩ := hp
  go_wp2_with fail
  go_ret
  exact HPP.out.from HO.out


theorem wr_same {ended : Bool} {n place : Nat} {x : Int} {key : ByteArray} {nb : Nat} {s : Ac} {old a b : Int} (h : 1 ≤ key.size ∧ key.size ≤ 255 → nb ≤ 4096 → a = b) : wrC ended n place x key nb s old a = wrC ended n place x key nb s old b ∧ wrA (wrC ended n place x key nb s old a) s old a = wrA (wrC ended n place x key nb s old b) s old b := by
  by_cases hv : (1 ≤ key.size ∧ key.size ≤ 255) ∧ nb ≤ 4096
  · rw [h hv.1 hv.2]
    exact ⟨rfl, rfl⟩
  · have e : wrC ended n place x key nb s old a = wrC ended n place x key nb s old b := by
      unfold wrC
      by_cases h1 : openC ended n x ≠ 0
      · rw [if_pos h1, if_pos h1]
      · rw [if_neg h1, if_neg h1]
        by_cases h2 : ¬ (1 ≤ key.size ∧ key.size ≤ 255)
        · rw [if_pos h2, if_pos h2]
        · rw [if_neg h2, if_neg h2, if_pos (by omega), if_pos (by omega)]
    have hn : wrC ended n place x key nb s old b ≠ 0 := by
      unfold wrC
      by_cases h1 : openC ended n x ≠ 0
      · rw [if_pos h1]; exact h1
      · rw [if_neg h1]
        by_cases h2 : ¬ (1 ≤ key.size ∧ key.size ≤ 255)
        · rw [if_pos h2]; decide
        · rw [if_neg h2, if_pos (by omega)]; decide
    rw [e]
    exact ⟨rfl, by unfold wrA; rw [if_neg hn, if_neg hn]⟩

theorem sc_putA {n : Nat} {os : Nat → Ob} {F : Nat → Nat → Prop} {w : World} {i j : Nat} {x : Tx} {b : Nat} {a : Ac} (h : Scene n os F w) (hi : i < n) (hj : j < n) (hij : i ≠ j) (ei : os i = .tx x) (ej : os j = .ac b a) (hq : x.ws.length ≤ 1048576) (pl : Int) (key : ByteArray) (hkl : key.size ≤ maxLen) (Av : Option Addr) (nb cv : Nat) (bs : List UInt8) (hnb : bs.length = nb) (hby : BytesAt w Av bs)
    (hvb : bs ≠ [] → ∀ g off, Av = some ⟨g, off, none⟩ → g ≠ b) :
    Calls Try.prog 15 #[.pointer (some ⟨x.t, 0, none⟩), .int .i64 pl, .string key, .slice Av nb cv, .pointer (some ⟨b, 0, none⟩)] w fun e w' => e = .returned (.int .i64 (putC x a pl key nb)) ∧
      Scene n (setAt (setAt os i (.tx (wrX x (putC x a pl key nb) ⟨key.data.toList, bs, false⟩))) j (.ac b (wrA (putC x a pl key nb) a (weightW x.ws key.data.toList : Nat) ((key.size : Int) + nb)))) F w' ∧ Only (fun k => F i k ∨ F j k) w w' := by
  obtain ⟨hx, hxF⟩ := h.tx hi ei
  obtain ⟨hA, hok, haF, hau⟩ := h.ac hj ej
  refine (txPut_any w x.t x.p x.m x.place _ x.snap x.ws x.ended _ hx (by omega) b a hA hok ⟨j, hj, hij.symm, (haF b).2 rfl⟩ pl key hkl Av nb cv bs hnb hby hvb (wrap64 ((key.size : Int) + nb)) rfl).mono fun e w' hp => ?_
  have hs := wr_same (ended := x.ended) (n := x.snap.length) (place := x.place) (x := pl) (key := key) (nb := nb) (s := a) (old := (weightW x.ws key.data.toList : Nat)) (a := wrap64 ((key.size : Int) + nb)) (b := (key.size : Int) + nb) (fun h1 h2 => by unfold wrap64; omega)
  obtain ⟨h1, h2, h3, h4⟩ := hp
  rw [hs.2] at h3
  rw [hs.1] at h1 h2
  exact h.wrote hi hj hij ei ej ⟨h1, h2, h3, h4⟩

end Go.Proofs.Ytbhihbhjmmeibaa

/-
  Layer 17's law TxnCharge walked.
-/
namespace Go.Proofs.Ytbhihbhjmmeibaa
open Go.RowKit Go.Shelf
open Qa (Ac AcIs AcPost)

theorem bytesW_append (a b : List We) : bytesW (a ++ b) = bytesW a + bytesW b := by
  induction a with
  | nil => simp [bytesW]
  | cons x a ih => simp only [List.cons_append, bytesW, ih]; omega
theorem bytesW_take {ws : List We} {i : Nat} {x : We} (h : ws[i]? = some x) : bytesW (ws.take (i + 1)) = bytesW (ws.take i) + (x.key.length + x.bs.length) := by
  rw [List.take_add_one, h, bytesW_append]
  simp [bytesW]
theorem bytesW_take_le (ws : List We) (i : Nat) : bytesW (ws.take i) ≤ bytesW ws := by
  conv => rhs; rw [← List.take_append_drop i ws, bytesW_append]
  omega
theorem len_le_bytes : ∀ {ws : List We}, (∀ e ∈ ws, 1 ≤ e.key.length) → ws.length ≤ bytesW ws
  | [], _ => by simp [bytesW]
  | x :: ws, h => by
    have h1 := h x (List.mem_cons_self)
    have h2 := len_le_bytes (ws := ws) (fun e he => h e (List.mem_cons_of_mem _ he))
    simp only [List.length_cons, bytesW]
    omega

/-- what a transaction and its account keep -/
structure ChOk (q : Int) (x : Tx) (a : Ac) : Prop where
  pend : a.pending = (bytesW x.ws : Nat)
  opn : a.opened = 1
  most : a.most = q
  ended : x.ended = false
theorem ChOk.wrote {q : Int} {x : Tx} {a : Ac} (h : ChOk q x a) (hr : x.ws.Pairwise fun a b => a.key < b.key) (c : Int) (e : We) (now : Int) (hc : c = 0 → (a.doCharge (weightW x.ws e.key : Nat) now).2 = 0 ∧ now = ((e.key.length + e.bs.length : Nat) : Int)) :
    ChOk q (wrX x c e) (wrA c a (weightW x.ws e.key : Nat) now) := by
  unfold wrX wrA wrW
  by_cases h0 : c = 0
  · obtain ⟨h1, h2⟩ := hc h0
    subst h2
    have hb := bytes_lay e hr
    unfold Ac.doCharge at h1 ⊢
    split at h1
    · cases h1
    · split at h1
      · cases h1
      · split at h1
        · cases h1
        · rename_i g1 g2 g3
          rw [if_pos h0, if_pos h0, if_neg g1, if_neg g2, if_neg g3]
          refine ⟨?_, h.opn, h.most, h.ended⟩
          show a.pending + _ = _
          rw [h.pend]
          show _ = ((bytesW (layW x.ws e) : Nat) : Int)
          omega
  · rw [if_neg h0, if_neg h0]
    exact ⟨h.pend, h.opn, h.most, h.ended⟩
theorem wrC_zero {ended : Bool} {n place : Nat} {x : Int} {key : ByteArray} {nb : Nat} {s : Ac} {old now : Int} (h : wrC ended n place x key nb s old now = 0) : (s.doCharge old now).2 = 0 := by
  unfold wrC at h
  split at h
  · rename_i h1; exact absurd h h1
  · split at h
    · cases h
    · split at h
      · cases h
      · split at h
        · cases h
        · exact h

theorem wr_sum2 (a b : Nat) (h : a + b ≤ 1048576) : wrap64 ((a : Int) + b) = (a : Int) + b := by unfold wrap64; omega
theorem wr_sum3 (n a b : Nat) (h : n + (a + b) ≤ 1048576) : wrap64 ((n : Int) + ((a : Int) + b)) = (n : Int) + ((a : Int) + b) := by unfold wrap64; omega
theorem key_len (k : ByteArray) : k.data.toList.length = k.size := Array.length_toList

/-- an account and a transaction -/
def osAT (b : Nat) (a : Ac) (x : Tx) : Nat → Ob
  | 0 => .ac b a
  | _ => .tx x
theorem osAT_set (x x' : Tx) (b : Nat) (a a' : Ac) : ∀ i, i < 2 → setAt (setAt (osAT b a x) 1 (.tx x')) 0 (.ac b a') i = osAT b a' x' i
  | 0, _ => rfl
  | 1, _ => rfl
  | n + 2, h => absurd h (by omega)
def chTx (t p m : Nat) (ws : List We) (ended : Bool) : Tx := ⟨t, p, m, 0, [0], ws, ended⟩
def ChRel (w : World) (q : Int) (n t p m b : Nat) (v : Value) (wr : World) : Prop := ∃ (i : Nat) (F : Nat → Nat → Prop) (ws : List We) (a : Ac), v = .int .i64 i ∧ i ≤ n ∧ LawSt w 2 (osAT b a (chTx t p m ws false)) F wr ∧ ChOk q (chTx t p m ws false) a
theorem ints_one (w : World) (x : Int) : IntsAt (w.alloc (.cells #[.int .i64 x] 3)) (some ⟨w.heap.size, 0, none⟩) [x] := fun i c hc => by
  have hb := Blk.new w 3 #[.int .i64 x]
  match i, hc with
  | 0, hc => simp at hc; subst hc; exact ⟨_, 0, rfl, by simp, hb.cellv 0 rfl⟩
  | i + 1, hc => simp at hc
/-- what stands is few -/
theorem LawSt.few {w u : World} {F : Nat → Nat → Prop} {x : Tx} {b : Nat} {a : Ac} {q : Int} (h : LawSt w 2 (osAT b a x) F u) (ok : ChOk q x a) : x.ws.length ≤ 1048576 ∧ bytesW x.ws ≤ 1048576 ∧ a.live + a.pending ≤ q ∧ a.Ok ∧ x.ws.Pairwise (fun a b => a.key < b.key) := by
  obtain ⟨hx, _⟩ := h.sc.tx (i := 1) (by decide) rfl
  obtain ⟨_, hok, _⟩ := h.sc.ac (i := 0) (by decide) rfl
  have h1 := len_le_bytes (fun e he => (hx.set.good e he).1)
  have h2 := ok.pend
  have h3 := hok.u1
  have h4 := hok.m1
  have h5 := hok.l0
  have h6 := ok.most
  exact ⟨by omega, by omega, by omega, hok, hx.set.rise⟩
abbrev stxC (x : Stx) (A : Option Addr) (n c : Nat) : Array Value := #[.int .i64 x.kind, .int .i64 x.place, .int .i64 x.n, .string x.key, .string x.tt, .string x.vk, .int .i64 x.st, .slice A n c, .bool x.dead, .bool x.none]

/-- the bytes of what it wrote, summed -/
def NRel (w8 : World) (ws : List We) (nk : Nat) (vn vi : Value) (wr : World) : Prop := ∃ k, k ≤ nk ∧ vn = .int .i64 (bytesW (ws.take k) : Nat) ∧ vi = .int .i64 k ∧ Only NoneOf w8 wr

set_option maxRecDepth 100000 in
set_option maxHeartbeats 16000000 in
theorem charge_walk (q o z1 z2 z3 : Int) (A : Option Addr) (cap : Nat) (xs : List Stx) (w : World) (hX : StxsAt w A xs) (hfew : xs.length ≤ 1759218604390) :
    Calls Try.prog 5 #[.agg #[.int .i64 q, .int .i64 o, .int .i64 z1, .int .i64 z2, .int .i64 z3], .slice A xs.length cap] w (AnsN (.bool true) w) := by
  have HX := Lib.hid hX
  obtain ⟨n, hn⟩ : ∃ n, xs.length = n := ⟨_, rfl⟩
  have HN := Lib.hid hn
  rw [hn] at hfew ⊢
  clear hX hn
  have HFX := fun u => Lib.hid (fixedTx_is u)
  have hOB := Lib.hid ((Only.refl NoneOf w).alloc (.cells #[.int .i64 q, .int .i64 o, .int .i64 z1, .int .i64 z2, .int .i64 z3] 42))
  have hBX := Blk.new w 42 #[.int .i64 q, .int .i64 o, .int .i64 z1, .int .i64 z2, .int .i64 z3]
  obtain ⟨w0, hw0⟩ : ∃ w0, w.alloc (.cells #[.int .i64 q, .int .i64 o, .int .i64 z1, .int .i64 z2, .int .i64 z3] 42) = w0 := ⟨_, rfl⟩
  obtain ⟨bq, hbq⟩ : ∃ bq, w.heap.size = bq := ⟨_, rfl⟩
  rw [hw0] at hOB hBX
  rw [hbq] at hBX
  have HW0 := Lib.hid hw0
  have HBQ := Lib.hid hBX
  have HBL := Lib.hid hBX.lt
  clear hw0 hBX
  go_enter Try.func5, Try.ntmps5
  go_wp2_with fail
  rw [HW0.out]
  by_cases hlim : Qa.Limits q o
  · refine (Qa.new_ok q o z1 z2 z3 w0 hlim.1 hlim.2.1 hlim.2.2.1 hlim.2.2.2).mono ?_
    rintro e w1 ⟨b, rfl, hb, ha, ho1⟩
    obtain ⟨F0, hs0, hf0⟩ := (Scene.start (osAT b ⟨q, o, 0, 0, 0⟩ (chTx 0 0 0 [] false)) (fun _ _ => False) w0).addAc ha (by
      obtain ⟨h1, h2, h3, h4⟩ := hlim
      constructor <;> simp <;> omega) ho1 hb
    have HL0 := Lib.hid ((LawSt.start w0 (osAT b ⟨q, o, 0, 0, 0⟩ (chTx 0 0 0 [] false)) (fun _ _ => False)).more hs0 ho1 hf0)
    have HBB := Lib.hid (show w0.heap.size ≤ b from hb)
    have HLM := Lib.hid hlim
    clear ha ho1 hs0 hf0 hb hlim
    go_wp2_with fail
    refine (HFX _).out.mono ?_; rintro e w2 ⟨rfl, ho2⟩
    have HL1 := Lib.hid (HL0.out.keep ho2)
    clear ho2 HL0
    go_wp2_with fail
    refine (sc_begin HL1.out.sc (j := 0) (by decide) rfl).mono ?_
    rintro e w3 ⟨he, hs3, ho3⟩
    have HL3 := Lib.hid (HL1.out.turn hs3 ho3 (fun k hk => ⟨0, by decide, hk⟩))
    clear hs3 ho3 HL1
    by_cases hop : o ≤ 0
    · rw [show (Ac.doBegin ⟨q, o, 0, 0, 0⟩) = (⟨q, o, 0, 0, 0⟩, 151) from by unfold Ac.doBegin; rw [if_pos hop]] at he
      subst he
      go_wp2_with fail
      go_ret
      exact ⟨rfl, hOB.out.trans HL3.out.only⟩
    · rw [show (Ac.doBegin ⟨q, o, 0, 0, 0⟩) = (⟨q, o, 0, 0, 1⟩, 0) from by unfold Ac.doBegin; rw [if_neg hop]; rfl] at he HL3
      subst he
      have hl3 := HL3.out.keep ((Only.refl NoneOf w3).alloc (.cells #[.int .i64 0] 3))
      obtain ⟨FA, hFA⟩ : ∃ FA, setAt (fun _ _ => False : Nat → Nat → Prop) 0 F0 = FA := ⟨_, rfl⟩
      have hl3' : LawSt w0 1 (osAT b ⟨q, o, 0, 0, 1⟩ (chTx 0 0 0 [] false)) FA (w3.alloc (.cells #[.int .i64 0] 3)) := by
        rw [← hFA]
        exact hl3.congr (fun i hi => match i, hi with | 0, _ => rfl | n + 1, h => absurd h (by omega))
      have HTN := Lib.hid (txNew_ok (w3.alloc (.cells #[.int .i64 0] 3)) (fun k => ∃ j, j < 1 ∧ FA j k) (fun k ⟨j, hj, hk⟩ => hl3'.lt hj hk) 0 _ 1 [0] (ints_one w3 0) 0 rfl (by decide) (by decide))
      have HL4 := Lib.hid hl3'
      clear hl3 hl3' hFA HL3
      go_wp2_with fail
      refine HTN.out.mono ?_
      rintro e w4 ⟨t, p, m, rfl, ht, ho4, ht1, ht2, ht3⟩
      obtain ⟨F1, hs4, hf1⟩ := HL4.out.sc.addTx ht ho4 ht1 ht2 ht3
      obtain ⟨FB, hFB⟩ : ∃ FB, setAt FA 1 F1 = FB := ⟨_, rfl⟩
      have HL5 := Lib.hid (show LawSt w0 2 (osAT b ⟨q, o, 0, 0, 1⟩ (chTx t p m [] false)) FB w4 from by
        rw [← hFB]
        exact (HL4.out.more hs4 ho4 hf1).congr (fun i hi => match i, hi with | 0, _ => rfl | 1, _ => rfl | n + 2, h => absurd h (by omega)))
      clear ht ho4 ht1 ht2 ht3 hs4 hf1 hFB HL4 HTN
      go_wp2_with fail
      go_loopw [38] (fun v wr => ChRel w0 q n t p m b v wr) (fun v _ => n - (intOf v).toNat)
      case atStart => exact ⟨0, FB, [], _, rfl, by omega, HL5.out, ⟨rfl, rfl, rfl, rfl⟩⟩
      case round =>
        obtain ⟨i, F, ws, a, rfl, hi, hl, hok⟩ := hrel
        have HL := Lib.hid hl
        have HOK := Lib.hid hok
        have HFEW := Lib.hid (hl.few hok)
        clear hl hok
        by_cases hlt : i < n
        · have hx : xs[i]? = some (xs[i]'(by rw [HN.out]; exact hlt)) := List.getElem?_eq_getElem _
          generalize xs[i]'(by rw [HN.out]; exact hlt) = x at hx
          have hOwr : Only NoneOf w wr := hOB.out.trans HL.out.only
          obtain ⟨g, off, Ab, cb, rfl, hg, ⟨d0, d1, d2, d3, d4, d5, d6, d7, d8, d9⟩, hby, hks, _, _⟩ := (HX.out.keep hOwr) i x hx
          have HBY0 := Lib.hid (show BytesAt w Ab x.bs from by
            obtain ⟨g2, off2, Ab2, cb2, hA2, hg2, ⟨e0, e1, e2, e3, e4, e5, e6, e7, e8, e9⟩, hby2, _⟩ := HX.out i _ hx
            injection hA2 with hA2
            injection hA2 with h1 h2 _
            subst h1; subst h2
            have h3 := (hOwr.cell (p := ⟨g, off + i * 10 + 7, none⟩) hg2 (fun h => h)).trans e7
            rw [d7] at h3
            injection h3 with h3
            injection h3 with h4 _ _
            rw [h4]
            exact hby2)
          obtain ⟨nb, hnb⟩ : ∃ nb, x.bs.length = nb := ⟨_, rfl⟩
          have HNB := Lib.hid hnb
          rw [hnb] at d7
          have HKS := Lib.hid hks
          have hal : Only NoneOf wr (wr.alloc (.cells (stxC x Ab nb cb) 52)) := (Only.refl _ _).alloc _
          have HSB := Lib.hid (Blk.new wr 52 (stxC x Ab nb cb))
          have HLa := Lib.hid (HL.out.keep hal)
          have HPD := Lib.hid (sc_pending HLa.out.sc (j := 0) (by decide) rfl)
          have hwr := HL.out.only.size
          clear hby hks hx hnb hOwr hal
          go_wp2_with fail
          refine HPD.out.mono ?_; rintro e w6 ⟨rfl, hw6⟩
          have HLb := Lib.hid (show LawSt w0 2 (osAT b a (chTx t p m ws false)) F w6 by rw [← hw6]; exact HLa.out)
          have hsb := HSB.out
          rw [hw6] at hsb
          have k0 := hsb.cellv 0 rfl
          have k3 := hsb.cellv 3 rfl
          have k7 := hsb.cellv 7 rfl
          obtain ⟨np, hnp⟩ : ∃ np, bytesW ws = np := ⟨_, rfl⟩
          have hpd : a.pending = (np : Int) := by rw [← hnp]; exact HOK.out.pend
          have HNP := Lib.hid hnp
          rw [hpd]
          clear hw6 hsb HLa HPD hnp
          have HNEXT := Lib.hid (show ∀ u F' ws' a', LawSt w0 2 (osAT b a' (chTx t p m ws' false)) F' u → ChOk q (chTx t p m ws' false) a' → ChRel w0 q n t p m b (.int .i64 ((i : Int) + 1)) u ∧ n - (intOf (.int .i64 ((i : Int) + 1))).toNat < n - (intOf (.int .i64 (i : Int))).toNat from
            fun u F' ws' a' h1 h2 => ⟨⟨i + 1, F', ws', a', by rw [show ((i + 1 : Nat) : Int) = (i : Int) + 1 by omega], by omega, h1, h2⟩, by simp [intOf]; omega⟩)
          cases q2 : (x.kind == 2)
          · cases q3 : (x.kind == 3)
            · go_wp2_with fail
              exact HNEXT.out _ _ _ _ HLb.out HOK.out
            · obtain ⟨c, hc⟩ : ∃ c, delC (chTx t p m ws false) a 0 x.key = c := ⟨_, rfl⟩
              have HD := sc_del HLb.out.sc (i := 1) (j := 0) (by decide) (by decide) (by decide) rfl rfl HFEW.out.1 0 x.key HKS.out
              rw [hc] at HD
              have HOK7 := Lib.hid (HOK.out.wrote HFEW.out.2.2.2.2 c ⟨x.key.data.toList, [], true⟩ (x.key.size : Int) (fun h0 => ⟨wrC_zero (hc.trans h0), by show (x.key.size : Int) = ((x.key.data.toList.length + 0 : Nat) : Int); rw [key_len, Nat.add_zero]⟩))
              replace HD := Lib.hid HD
              clear hc
              go_wp2_with fail
              refine HD.out.mono ?_
              rintro e w7 ⟨rfl, hs7, ho7⟩
              obtain ⟨ws', hws'⟩ : ∃ ws', wrW c ws ⟨x.key.data.toList, [], true⟩ = ws' := ⟨_, rfl⟩
              obtain ⟨a', ha'⟩ : ∃ a', wrA c a (weightW ws x.key.data.toList : Nat) (x.key.size : Int) = a' := ⟨_, rfl⟩
              have HL7 := Lib.hid (show LawSt w0 2 (osAT b a' (chTx t p m ws' false)) F w7 from by
                rw [← hws', ← ha']
                exact (HLb.out.turn hs7 ho7 (fun k hk => hk.elim (fun h => ⟨1, by decide, h⟩) (fun h => ⟨0, by decide, h⟩))).congr (osAT_set _ _ _ _ _))
              have HOK8 := Lib.hid (show ChOk q (chTx t p m ws' false) a' from by rw [← hws', ← ha']; exact HOK7.out)
              have HSAME := Lib.hid (show c ≠ 0 → bytesW ws' = np from fun h => by rw [← hws', ← HNP.out]; unfold wrW; rw [if_neg h])
              have HF7 := Lib.hid (HL7.out.few HOK8.out)
              have HWT := Lib.hid (sc_writes HL7.out.sc (i := 1) (by decide) rfl HF7.out.1)
              have hgood := Lib.hid ((HL7.out.sc.tx (i := 1) (by decide) rfl).1.set.good)
              clear hs7 ho7 hws' ha' HD HOK7
              go_wp2_with fail
              refine HWT.out.mono ?_
              rintro e w8 ⟨v8, rs, rfl, hr8, hpl8, ho8⟩
              obtain ⟨nk, hnk⟩ : ∃ nk, ws'.length = nk := ⟨_, rfl⟩
              have hrl : rs.length = nk := by
                have := congrArg List.length hpl8
                rw [List.length_map, List.length_map] at this
                rw [← hnk]
                exact this
              have hkey : ∀ r ∈ rs, r.key.size ≤ maxLen := fun r hr => by
                have h1 : r.plain ∈ ws'.map verW := by rw [show ws'.map verW = (chTx t p m ws' false).ws.map verW from rfl, ← hpl8]; exact List.mem_map.2 ⟨r, hr, rfl⟩
                obtain ⟨e, he, h2⟩ := List.mem_map.1 h1
                have h3 : r.key = ⟨e.key.toArray⟩ := (congrArg Prod.fst h2).symm
                rw [h3]
                show e.key.toArray.size ≤ maxLen
                rw [List.size_toArray]
                have := (hgood.out e he).2.1
                unfold maxLen
                omega
              obtain ⟨A8, c8, rfl, hRA⟩ := hr8.rat hkey
              have HRA := Lib.hid hRA
              have HPL := Lib.hid (show rs.map VRow.plain = ws'.map verW from hpl8)
              have HNK := Lib.hid hnk
              have HRL := Lib.hid hrl
              have HO8 := Lib.hid ho8
              have hs8 := ho8.size
              have hB7 := HF7.out.2.1
              have hnkb : nk ≤ 1048576 := by rw [← hnk]; exact HF7.out.1
              rw [hrl]
              clear hr8 hpl8 hkey hnk hrl ho8 hRA HWT
              go_wp2_with fail
              go_loopw [12, 66] (fun vn vi wr' => NRel w8 ws' nk vn vi wr') (fun _ vi _ => nk - (intOf vi).toNat)
              case atStart => exact ⟨0, by omega, rfl, rfl, Only.refl _ _⟩
              case round =>
                obtain ⟨k, hk, rfl, rfl, hO⟩ := hrel
                have HO := Lib.hid hO
                clear hO
                by_cases hkl : k < nk
                · have hwi : ws'[k]? = some (ws'[k]'(by rw [HNK.out]; exact hkl)) := List.getElem?_eq_getElem _
                  generalize ws'[k]'(by rw [HNK.out]; exact hkl) = y at hwi
                  have hri : rs[k]? = some (rs[k]'(by rw [HRL.out]; exact hkl)) := List.getElem?_eq_getElem _
                  generalize rs[k]'(by rw [HRL.out]; exact hkl) = r at hri
                  have hrp : r.plain = verW y := by
                    have h1 : (rs.map VRow.plain)[k]? = (ws'.map verW)[k]? := by rw [HPL.out]
                    rw [List.getElem?_map, List.getElem?_map, hri, hwi] at h1
                    exact Option.some.inj h1
                  obtain ⟨g8, o8, Av8, cv8, rfl, hg8, f0, f1, f2, f3, _, _, _⟩ := (HRA.out.keep HO.out) k r hri
                  have hkz : r.key.size = y.key.length := by rw [show r.key = ⟨y.key.toArray⟩ from congrArg Prod.fst hrp]; show y.key.toArray.size = _; rw [List.size_toArray]
                  have hbz : r.bs.length = y.bs.length := by rw [show r.bs = y.bs from congrArg (fun z => z.2.bs) hrp]
                  have htk := bytesW_take hwi
                  have htl := bytesW_take_le ws' (k + 1)
                  obtain ⟨nn, hnn⟩ : ∃ nn, bytesW (ws'.take k) = nn := ⟨_, rfl⟩
                  obtain ⟨kz, hkz2⟩ : ∃ kz, r.key.size = kz := ⟨_, rfl⟩
                  obtain ⟨bz, hbz2⟩ : ∃ bz, r.bs.length = bz := ⟨_, rfl⟩
                  have HT := Lib.hid (show bytesW (ws'.take (k + 1)) = nn + (kz + bz) by rw [htk, hnn, ← hkz2, ← hbz2, hkz, hbz])
                  have hsm : nn + (kz + bz) ≤ 1048576 := by rw [← HT.out]; exact Nat.le_trans htl hB7
                  rw [hnn]
                  rw [hbz2] at f2
                  clear hwi hri hrp htk htl hnn hkz hbz hbz2
                  go_wp2_with fail
                  exact ⟨⟨k + 1, by omega, by rw [HT.out, Int.natCast_add, Int.natCast_add], by rw [show ((k + 1 : Nat) : Int) = (k : Int) + 1 by omega], HO.out.trans (by repeat (first | exact Only.refl _ _ | refine Only.alloc ?_ _))⟩, by simp [intOf]; omega⟩
                · obtain rfl : k = nk := by omega
                  have htk : ws'.take k = ws' := by rw [← HNK.out, List.take_length]
                  rw [htk]
                  obtain ⟨n2, hn2⟩ : ∃ n2, bytesW ws' = n2 := ⟨_, rfl⟩
                  have HL9 := Lib.hid (HL7.out.keep (HO8.out.trans HO.out))
                  have HP2 := Lib.hid (show a'.pending = ((n2 : Nat) : Int) by rw [← hn2]; exact HOK8.out.pend)
                  have hlu : decide (q < a'.live + a'.pending) = false := decide_eq_false (by have := HF7.out.2.2.1; omega)
                  rw [hn2]
                  have HSM := Lib.hid (show c ≠ 0 → n2 = np from fun h => by rw [← hn2]; exact HSAME.out h)
                  clear htk hn2
                  by_cases hc0 : c = 0
                  · subst hc0
                    go_upto_region 24 with (fail)
                    refine wp_region_head2 20 121 [4, 7, 13] (fun g => match g with | 4 => some false | 7 => some false | 13 => some false | _ => none) (fun _ => none) NoneOf (fun _ => Only NoneOf wr) (ConstT fun i => match i with | 0 => .pointer (some ⟨b, 0, none⟩) | 1 => .int .i64 ((n2 : Nat) : Int) | 2 => .int .i64 ((n2 : Nat) : Int) | 3 => .bool false | 4 => .bool false | 5 => .int .i64 0 | 6 => .bool false | 7 => .bool false | 8 => undef | 9 => undef | 10 => undef | 11 => .bool false | 12 => .bool false | 13 => .bool false | 14 => .pointer (some ⟨b, 0, none⟩) | 15 => .int .i64 (a'.live + a'.pending) | 16 => .pointer (some ⟨bq, 0, none⟩) | 17 => .int .i64 q | 18 => .bool false | _ => .bool false) rfl (by kernel_rfl) (by kernel_rfl) ?hskip ?hgv (fun _ _ _ _ h _ => h) ((Only.refl _ _).drew) ?hstep ?hend
                    case hskip =>
                      intro i o hi ho hw k
                      have : i = 0 ∨ i = 1 ∨ i = 2 ∨ i = 3 ∨ i = 4 ∨ i = 5 ∨ i = 6 ∨ i = 7 ∨ i = 8 ∨ i = 9 ∨ i = 10 ∨ i = 11 ∨ i = 12 ∨ i = 13 ∨ i = 14 ∨ i = 15 ∨ i = 16 ∨ i = 17 ∨ i = 18 ∨ i = 19 := by omega
                      rcases this with rfl | rfl | rfl | rfl | rfl | rfl | rfl | rfl | rfl | rfl | rfl | rfl | rfl | rfl | rfl | rfl | rfl | rfl | rfl | rfl
                      · rfl
                      · rfl
                      · rfl
                      · rfl
                      · rfl
                      · rfl
                      · rfl
                      · rfl
                      · rfl
                      · rfl
                      · rfl
                      · rfl
                      · rfl
                      · rfl
                      · rfl
                      · rfl
                      · rfl
                      · rfl
                      · rfl
                      · rfl
                    case hgv =>
                      intro g hg v w h
                      have : g = 4 ∨ g = 7 ∨ g = 13 := by simpa using hg
                      rcases this with rfl | rfl | rfl
                      · obtain rfl : v = .bool false := h; rfl
                      · obtain rfl : v = .bool false := h; rfl
                      · obtain rfl : v = .bool false := h; rfl
                    case hstep =>
                      intro i o hi ho a u k hk hik hs ht
                      have e5 : a.tmps.getD 5 undef = .pointer (some ⟨b, 0, none⟩) := hs 5 (of_decide_eq_true (by kernel_rfl))
                      have e12 : a.tmps.getD 12 undef = .int .i64 ((n2 : Nat) : Int) := hs 12 (of_decide_eq_true (by kernel_rfl))
                      have e6 : a.tmps.getD 6 undef = .int .i64 0 := hs 6 (of_decide_eq_true (by kernel_rfl))
                      have e2 : a.tmps.getD 2 undef = .pointer (some ⟨bq, 0, none⟩) := hs 2 (of_decide_eq_true (by kernel_rfl))
                      have cq := (HBQ.out.only (HL9.out.only.trans hk) (fun h => h)).cellv 0 rfl
                      have : i = 0 ∨ i = 1 ∨ i = 2 ∨ i = 3 ∨ i = 4 ∨ i = 5 ∨ i = 6 ∨ i = 7 ∨ i = 8 ∨ i = 9 ∨ i = 10 ∨ i = 11 ∨ i = 12 ∨ i = 13 ∨ i = 14 ∨ i = 15 ∨ i = 16 ∨ i = 17 ∨ i = 18 ∨ i = 19 := by omega
                      rcases this with rfl | rfl | rfl | rfl | rfl | rfl | rfl | rfl | rfl | rfl | rfl | rfl | rfl | rfl | rfl | rfl | rfl | rfl | rfl | rfl
                      · obtain rfl := Option.some.inj (ho : some _ = some o)
                        rw [if_pos (by decide)]
                        exact left2_value (.pointer (some ⟨b, 0, none⟩)) (by simp [go_sem, e5]) rfl rfl hk
                      · obtain rfl := Option.some.inj (ho : some _ = some o)
                        rw [if_pos (by decide)]
                        have s0 : a.tmps.getD 80 undef = .pointer (some ⟨b, 0, none⟩) := ht 0 (by omega) (by kernel_rfl)
                        refine left2_calls 17 #[.pointer (some ⟨b, 0, none⟩)] (by simp [go_sem, s0]) ((sc_pending (HL9.out.keep hk).sc (j := 0) (by decide) rfl).mono ?_) rfl (fun w' hw' => hk.trans hw')
                        rintro e u' ⟨rfl, rfl⟩
                        exact ⟨_, rfl, by rw [HP2.out]; rfl, Only.refl _ _⟩
                      · obtain rfl := Option.some.inj (ho : some _ = some o)
                        rw [if_pos (by decide)]
                        exact left2_value (.int .i64 ((n2 : Nat) : Int)) (by simp [go_sem, e12]) rfl rfl hk
                      · obtain rfl := Option.some.inj (ho : some _ = some o)
                        rw [if_pos (by decide)]
                        have s1 : a.tmps.getD 81 undef = .int .i64 ((n2 : Nat) : Int) := ht 1 (by omega) (by kernel_rfl)
                        have s2 : a.tmps.getD 82 undef = .int .i64 ((n2 : Nat) : Int) := ht 2 (by omega) (by kernel_rfl)
                        exact left2_value (.bool false) (by simp [go_sem, s1, s2]) rfl rfl hk
                      · obtain rfl := Option.some.inj (ho : some _ = some o)
                        rw [if_pos (by decide)]
                        have s1 : a.tmps.getD 81 undef = .int .i64 ((n2 : Nat) : Int) := ht 1 (by omega) (by kernel_rfl)
                        have s3 : a.tmps.getD 83 undef = .bool false := ht 3 (by omega) (by kernel_rfl)
                        exact left2_value (.bool false) (by simp [go_sem, s3]) rfl rfl hk
                      · obtain rfl := Option.some.inj (ho : some _ = some o)
                        rw [if_pos (by decide)]
                        exact left2_value (.int .i64 0) (by simp [go_sem, e6]) rfl rfl hk
                      · obtain rfl := Option.some.inj (ho : some _ = some o)
                        rw [if_pos (by decide)]
                        have s5 : a.tmps.getD 85 undef = .int .i64 0 := ht 5 (by omega) (by kernel_rfl)
                        exact left2_value (.bool false) (by simp [go_sem, s5]) rfl rfl hk
                      · obtain rfl := Option.some.inj (ho : some _ = some o)
                        rw [if_pos (by decide)]
                        have s4 : a.tmps.getD 84 undef = .bool false := ht 4 (by omega) (by kernel_rfl)
                        have s6 : a.tmps.getD 86 undef = .bool false := ht 6 (by omega) (by kernel_rfl)
                        exact left2_value (.bool false) (by simp [go_sem, s6]) rfl rfl hk
                      · obtain rfl := Option.some.inj (ho : some _ = some o)
                        rw [if_neg (by decide)]
                        exact rfl
                      · obtain rfl := Option.some.inj (ho : some _ = some o)
                        rw [if_neg (by decide)]
                        exact rfl
                      · obtain rfl := Option.some.inj (ho : some _ = some o)
                        rw [if_neg (by decide)]
                        exact rfl
                      · obtain rfl := Option.some.inj (ho : some _ = some o)
                        rw [if_pos (by decide)]
                        have s7 : a.tmps.getD 87 undef = .bool false := ht 7 (by omega) (by kernel_rfl)
                        have s10 : a.tmps.getD 90 undef = undef := ht 10 (by omega) (by kernel_rfl)
                        exact left2_value (.bool false) (by simp [go_sem, s7, s10]) rfl rfl hk
                      · obtain rfl := Option.some.inj (ho : some _ = some o)
                        rw [if_pos (by decide)]
                        have s4 : a.tmps.getD 84 undef = .bool false := ht 4 (by omega) (by kernel_rfl)
                        have s11 : a.tmps.getD 91 undef = .bool false := ht 11 (by omega) (by kernel_rfl)
                        exact left2_value (.bool false) (by simp [go_sem, s4, s11]) rfl rfl hk
                      · obtain rfl := Option.some.inj (ho : some _ = some o)
                        rw [if_pos (by decide)]
                        have s7 : a.tmps.getD 87 undef = .bool false := ht 7 (by omega) (by kernel_rfl)
                        have s12 : a.tmps.getD 92 undef = .bool false := ht 12 (by omega) (by kernel_rfl)
                        exact left2_value (.bool false) (by simp [go_sem, s12]) rfl rfl hk
                      · obtain rfl := Option.some.inj (ho : some _ = some o)
                        rw [if_pos (by decide)]
                        exact left2_value (.pointer (some ⟨b, 0, none⟩)) (by simp [go_sem, e5]) rfl rfl hk
                      · obtain rfl := Option.some.inj (ho : some _ = some o)
                        rw [if_pos (by decide)]
                        have s13 : a.tmps.getD 93 undef = .bool false := ht 13 (by omega) (by kernel_rfl)
                        have s14 : a.tmps.getD 94 undef = .pointer (some ⟨b, 0, none⟩) := ht 14 (by omega) (by kernel_rfl)
                        obtain ⟨hA9, hok9, _⟩ := (HL9.out.keep hk).sc.ac (i := 0) (by decide) rfl
                        refine left2_calls 19 #[.pointer (some ⟨b, 0, none⟩)] (by simp [go_sem, s14]) ((Qa.used_has b a' u hA9 hok9).mono ?_) rfl (fun w' hw' => hk.trans hw')
                        rintro e u' ⟨rfl, m, rfl⟩
                        exact ⟨_, rfl, rfl, (Only.refl _ _).drewN m⟩
                      · obtain rfl := Option.some.inj (ho : some _ = some o)
                        rw [if_pos (by decide)]
                        exact left2_value (.pointer (some ⟨bq, 0, none⟩)) (by simp [go_sem, e2]) rfl rfl hk
                      · obtain rfl := Option.some.inj (ho : some _ = some o)
                        rw [if_pos (by decide)]
                        have s16 : a.tmps.getD 96 undef = .pointer (some ⟨bq, 0, none⟩) := ht 16 (by omega) (by kernel_rfl)
                        exact left2_value (.int .i64 q) (by simp [go_sem, s16, cq]) rfl rfl hk
                      · obtain rfl := Option.some.inj (ho : some _ = some o)
                        rw [if_pos (by decide)]
                        have s15 : a.tmps.getD 95 undef = .int .i64 (a'.live + a'.pending) := ht 15 (by omega) (by kernel_rfl)
                        have s17 : a.tmps.getD 97 undef = .int .i64 q := ht 17 (by omega) (by kernel_rfl)
                        exact left2_value (.bool false) (by simp [go_sem, s15, s17, hlu]) rfl rfl hk
                      · obtain rfl := Option.some.inj (ho : some _ = some o)
                        rw [if_pos (by decide)]
                        have s13 : a.tmps.getD 93 undef = .bool false := ht 13 (by omega) (by kernel_rfl)
                        have s18 : a.tmps.getD 98 undef = .bool false := ht 18 (by omega) (by kernel_rfl)
                        exact left2_value (.bool false) (by simp [go_sem, s13, s18]) rfl rfl hk
                    case hend =>
                      intro V' u k hk hkt hV'
                      have v0 : V' 0 = .pointer (some ⟨b, 0, none⟩) := hV' 0 (by omega)
                      have v1 : V' 1 = .int .i64 ((n2 : Nat) : Int) := hV' 1 (by omega)
                      have v2 : V' 2 = .int .i64 ((n2 : Nat) : Int) := hV' 2 (by omega)
                      have v3 : V' 3 = .bool false := hV' 3 (by omega)
                      have v4 : V' 4 = .bool false := hV' 4 (by omega)
                      have v5 : V' 5 = .int .i64 0 := hV' 5 (by omega)
                      have v6 : V' 6 = .bool false := hV' 6 (by omega)
                      have v7 : V' 7 = .bool false := hV' 7 (by omega)
                      have v8 : V' 8 = undef := hV' 8 (by omega)
                      have v9 : V' 9 = undef := hV' 9 (by omega)
                      have v10 : V' 10 = undef := hV' 10 (by omega)
                      have v11 : V' 11 = .bool false := hV' 11 (by omega)
                      have v12 : V' 12 = .bool false := hV' 12 (by omega)
                      have v13 : V' 13 = .bool false := hV' 13 (by omega)
                      have v14 : V' 14 = .pointer (some ⟨b, 0, none⟩) := hV' 14 (by omega)
                      have v15 : V' 15 = .int .i64 (a'.live + a'.pending) := hV' 15 (by omega)
                      have v16 : V' 16 = .pointer (some ⟨bq, 0, none⟩) := hV' 16 (by omega)
                      have v17 : V' 17 = .int .i64 q := hV' 17 (by omega)
                      have v18 : V' 18 = .bool false := hV' 18 (by omega)
                      have v19 : V' 19 = .bool false := hV' 19 (by omega)
                      change wpList _ _ _ _ (Act.put (Act.put (Act.put (Act.put (Act.put (Act.put (Act.put (Act.put (Act.put (Act.put (Act.put (Act.put (Act.put (Act.put (Act.put (Act.put (Act.put (Act.put (Act.put (Act.put _ (some 80) (V' 0)) (some 81) (V' 1)) (some 82) (V' 2)) (some 83) (V' 3)) (some 84) (V' 4)) (some 85) (V' 5)) (some 86) (V' 6)) (some 87) (V' 7)) (some 88) (V' 8)) (some 89) (V' 9)) (some 90) (V' 10)) (some 91) (V' 11)) (some 92) (V' 12)) (some 93) (V' 13)) (some 94) (V' 14)) (some 95) (V' 15)) (some 96) (V' 16)) (some 97) (V' 17)) (some 98) (V' 18)) (some 99) (V' 19)) _
                      rw [v0, v1, v2, v3, v4, v5, v6, v7, v8, v9, v10, v11, v12, v13, v14, v15, v16, v17, v18, v19]
                      simp only [Act.put, List.setIfInBounds_toArray, List.set_cons_zero, List.set_cons_succ]
                      simp only [List.drop_succ_cons, List.drop_zero]
                      clear hV' v0 v1 v2 v3 v4 v5 v6 v7 v8 v9 v10 v11 v12 v13 v14 v15 v16 v17 v18 v19
                      go_wp2_with fail
                      exact HNEXT.out _ _ _ _ (HL9.out.keep hk) HOK8.out
                  · obtain rfl := HSM.out hc0
                    have hcb : (c != 0) = true := by simp [hc0]
                    go_upto_region 24 with (fail)
                    refine wp_region_head2 20 121 [4, 7, 13] (fun g => match g with | 4 => some false | 7 => some true | 13 => some false | _ => none) (fun _ => none) NoneOf (fun _ => Only NoneOf wr) (ConstT fun i => match i with | 0 => .pointer (some ⟨b, 0, none⟩) | 1 => .int .i64 ((n2 : Nat) : Int) | 2 => .int .i64 ((n2 : Nat) : Int) | 3 => .bool false | 4 => .bool false | 5 => .int .i64 c | 6 => .bool true | 7 => .bool true | 8 => .int .i64 ((n2 : Nat) : Int) | 9 => .int .i64 ((n2 : Nat) : Int) | 10 => .bool false | 11 => .bool false | 12 => .bool false | 13 => .bool false | 14 => .pointer (some ⟨b, 0, none⟩) | 15 => .int .i64 (a'.live + a'.pending) | 16 => .pointer (some ⟨bq, 0, none⟩) | 17 => .int .i64 q | 18 => .bool false | _ => .bool false) rfl (by kernel_rfl) (by kernel_rfl) ?hskip ?hgv (fun _ _ _ _ h _ => h) ((Only.refl _ _).drew) ?hstep ?hend
                    case hskip =>
                      intro i o hi ho hw k
                      have : i = 0 ∨ i = 1 ∨ i = 2 ∨ i = 3 ∨ i = 4 ∨ i = 5 ∨ i = 6 ∨ i = 7 ∨ i = 8 ∨ i = 9 ∨ i = 10 ∨ i = 11 ∨ i = 12 ∨ i = 13 ∨ i = 14 ∨ i = 15 ∨ i = 16 ∨ i = 17 ∨ i = 18 ∨ i = 19 := by omega
                      rcases this with rfl | rfl | rfl | rfl | rfl | rfl | rfl | rfl | rfl | rfl | rfl | rfl | rfl | rfl | rfl | rfl | rfl | rfl | rfl | rfl
                      · rfl
                      · rfl
                      · rfl
                      · rfl
                      · rfl
                      · rfl
                      · rfl
                      · rfl
                      · rfl
                      · rfl
                      · rfl
                      · rfl
                      · rfl
                      · rfl
                      · rfl
                      · rfl
                      · rfl
                      · rfl
                      · rfl
                      · rfl
                    case hgv =>
                      intro g hg v w h
                      have : g = 4 ∨ g = 7 ∨ g = 13 := by simpa using hg
                      rcases this with rfl | rfl | rfl
                      · obtain rfl : v = .bool false := h; rfl
                      · obtain rfl : v = .bool true := h; rfl
                      · obtain rfl : v = .bool false := h; rfl
                    case hstep =>
                      intro i o hi ho a u k hk hik hs ht
                      have e5 : a.tmps.getD 5 undef = .pointer (some ⟨b, 0, none⟩) := hs 5 (of_decide_eq_true (by kernel_rfl))
                      have e12 : a.tmps.getD 12 undef = .int .i64 ((n2 : Nat) : Int) := hs 12 (of_decide_eq_true (by kernel_rfl))
                      have e6 : a.tmps.getD 6 undef = .int .i64 c := hs 6 (of_decide_eq_true (by kernel_rfl))
                      have e2 : a.tmps.getD 2 undef = .pointer (some ⟨bq, 0, none⟩) := hs 2 (of_decide_eq_true (by kernel_rfl))
                      have e11 : a.tmps.getD 11 undef = .int .i64 ((n2 : Nat) : Int) := hs 11 (of_decide_eq_true (by kernel_rfl))
                      have cq := (HBQ.out.only (HL9.out.only.trans hk) (fun h => h)).cellv 0 rfl
                      have : i = 0 ∨ i = 1 ∨ i = 2 ∨ i = 3 ∨ i = 4 ∨ i = 5 ∨ i = 6 ∨ i = 7 ∨ i = 8 ∨ i = 9 ∨ i = 10 ∨ i = 11 ∨ i = 12 ∨ i = 13 ∨ i = 14 ∨ i = 15 ∨ i = 16 ∨ i = 17 ∨ i = 18 ∨ i = 19 := by omega
                      rcases this with rfl | rfl | rfl | rfl | rfl | rfl | rfl | rfl | rfl | rfl | rfl | rfl | rfl | rfl | rfl | rfl | rfl | rfl | rfl | rfl
                      · obtain rfl := Option.some.inj (ho : some _ = some o)
                        rw [if_pos (by decide)]
                        exact left2_value (.pointer (some ⟨b, 0, none⟩)) (by simp [go_sem, e5]) rfl rfl hk
                      · obtain rfl := Option.some.inj (ho : some _ = some o)
                        rw [if_pos (by decide)]
                        have s0 : a.tmps.getD 80 undef = .pointer (some ⟨b, 0, none⟩) := ht 0 (by omega) (by kernel_rfl)
                        refine left2_calls 17 #[.pointer (some ⟨b, 0, none⟩)] (by simp [go_sem, s0]) ((sc_pending (HL9.out.keep hk).sc (j := 0) (by decide) rfl).mono ?_) rfl (fun w' hw' => hk.trans hw')
                        rintro e u' ⟨rfl, rfl⟩
                        exact ⟨_, rfl, by rw [HP2.out]; rfl, Only.refl _ _⟩
                      · obtain rfl := Option.some.inj (ho : some _ = some o)
                        rw [if_pos (by decide)]
                        exact left2_value (.int .i64 ((n2 : Nat) : Int)) (by simp [go_sem, e12]) rfl rfl hk
                      · obtain rfl := Option.some.inj (ho : some _ = some o)
                        rw [if_pos (by decide)]
                        have s1 : a.tmps.getD 81 undef = .int .i64 ((n2 : Nat) : Int) := ht 1 (by omega) (by kernel_rfl)
                        have s2 : a.tmps.getD 82 undef = .int .i64 ((n2 : Nat) : Int) := ht 2 (by omega) (by kernel_rfl)
                        exact left2_value (.bool false) (by simp [go_sem, s1, s2]) rfl rfl hk
                      · obtain rfl := Option.some.inj (ho : some _ = some o)
                        rw [if_pos (by decide)]
                        have s1 : a.tmps.getD 81 undef = .int .i64 ((n2 : Nat) : Int) := ht 1 (by omega) (by kernel_rfl)
                        have s3 : a.tmps.getD 83 undef = .bool false := ht 3 (by omega) (by kernel_rfl)
                        exact left2_value (.bool false) (by simp [go_sem, s3]) rfl rfl hk
                      · obtain rfl := Option.some.inj (ho : some _ = some o)
                        rw [if_pos (by decide)]
                        exact left2_value (.int .i64 c) (by simp [go_sem, e6]) rfl rfl hk
                      · obtain rfl := Option.some.inj (ho : some _ = some o)
                        rw [if_pos (by decide)]
                        have s5 : a.tmps.getD 85 undef = .int .i64 c := ht 5 (by omega) (by kernel_rfl)
                        exact left2_value (.bool true) (by simp [go_sem, s5, hcb]) rfl rfl hk
                      · obtain rfl := Option.some.inj (ho : some _ = some o)
                        rw [if_pos (by decide)]
                        have s4 : a.tmps.getD 84 undef = .bool false := ht 4 (by omega) (by kernel_rfl)
                        have s6 : a.tmps.getD 86 undef = .bool true := ht 6 (by omega) (by kernel_rfl)
                        exact left2_value (.bool true) (by simp [go_sem, s6]) rfl rfl hk
                      · obtain rfl := Option.some.inj (ho : some _ = some o)
                        rw [if_pos (by decide)]
                        exact left2_value (.int .i64 ((n2 : Nat) : Int)) (by simp [go_sem, e12]) rfl rfl hk
                      · obtain rfl := Option.some.inj (ho : some _ = some o)
                        rw [if_pos (by decide)]
                        exact left2_value (.int .i64 ((n2 : Nat) : Int)) (by simp [go_sem, e11]) rfl rfl hk
                      · obtain rfl := Option.some.inj (ho : some _ = some o)
                        rw [if_pos (by decide)]
                        have s8 : a.tmps.getD 88 undef = .int .i64 ((n2 : Nat) : Int) := ht 8 (by omega) (by kernel_rfl)
                        have s9 : a.tmps.getD 89 undef = .int .i64 ((n2 : Nat) : Int) := ht 9 (by omega) (by kernel_rfl)
                        exact left2_value (.bool false) (by simp [go_sem, s8, s9]) rfl rfl hk
                      · obtain rfl := Option.some.inj (ho : some _ = some o)
                        rw [if_pos (by decide)]
                        have s7 : a.tmps.getD 87 undef = .bool true := ht 7 (by omega) (by kernel_rfl)
                        have s10 : a.tmps.getD 90 undef = .bool false := ht 10 (by omega) (by kernel_rfl)
                        exact left2_value (.bool false) (by simp [go_sem, s7, s10]) rfl rfl hk
                      · obtain rfl := Option.some.inj (ho : some _ = some o)
                        rw [if_pos (by decide)]
                        have s4 : a.tmps.getD 84 undef = .bool false := ht 4 (by omega) (by kernel_rfl)
                        have s11 : a.tmps.getD 91 undef = .bool false := ht 11 (by omega) (by kernel_rfl)
                        exact left2_value (.bool false) (by simp [go_sem, s4, s11]) rfl rfl hk
                      · obtain rfl := Option.some.inj (ho : some _ = some o)
                        rw [if_pos (by decide)]
                        have s7 : a.tmps.getD 87 undef = .bool true := ht 7 (by omega) (by kernel_rfl)
                        have s12 : a.tmps.getD 92 undef = .bool false := ht 12 (by omega) (by kernel_rfl)
                        exact left2_value (.bool false) (by simp [go_sem, s12]) rfl rfl hk
                      · obtain rfl := Option.some.inj (ho : some _ = some o)
                        rw [if_pos (by decide)]
                        exact left2_value (.pointer (some ⟨b, 0, none⟩)) (by simp [go_sem, e5]) rfl rfl hk
                      · obtain rfl := Option.some.inj (ho : some _ = some o)
                        rw [if_pos (by decide)]
                        have s13 : a.tmps.getD 93 undef = .bool false := ht 13 (by omega) (by kernel_rfl)
                        have s14 : a.tmps.getD 94 undef = .pointer (some ⟨b, 0, none⟩) := ht 14 (by omega) (by kernel_rfl)
                        obtain ⟨hA9, hok9, _⟩ := (HL9.out.keep hk).sc.ac (i := 0) (by decide) rfl
                        refine left2_calls 19 #[.pointer (some ⟨b, 0, none⟩)] (by simp [go_sem, s14]) ((Qa.used_has b a' u hA9 hok9).mono ?_) rfl (fun w' hw' => hk.trans hw')
                        rintro e u' ⟨rfl, m, rfl⟩
                        exact ⟨_, rfl, rfl, (Only.refl _ _).drewN m⟩
                      · obtain rfl := Option.some.inj (ho : some _ = some o)
                        rw [if_pos (by decide)]
                        exact left2_value (.pointer (some ⟨bq, 0, none⟩)) (by simp [go_sem, e2]) rfl rfl hk
                      · obtain rfl := Option.some.inj (ho : some _ = some o)
                        rw [if_pos (by decide)]
                        have s16 : a.tmps.getD 96 undef = .pointer (some ⟨bq, 0, none⟩) := ht 16 (by omega) (by kernel_rfl)
                        exact left2_value (.int .i64 q) (by simp [go_sem, s16, cq]) rfl rfl hk
                      · obtain rfl := Option.some.inj (ho : some _ = some o)
                        rw [if_pos (by decide)]
                        have s15 : a.tmps.getD 95 undef = .int .i64 (a'.live + a'.pending) := ht 15 (by omega) (by kernel_rfl)
                        have s17 : a.tmps.getD 97 undef = .int .i64 q := ht 17 (by omega) (by kernel_rfl)
                        exact left2_value (.bool false) (by simp [go_sem, s15, s17, hlu]) rfl rfl hk
                      · obtain rfl := Option.some.inj (ho : some _ = some o)
                        rw [if_pos (by decide)]
                        have s13 : a.tmps.getD 93 undef = .bool false := ht 13 (by omega) (by kernel_rfl)
                        have s18 : a.tmps.getD 98 undef = .bool false := ht 18 (by omega) (by kernel_rfl)
                        exact left2_value (.bool false) (by simp [go_sem, s13, s18]) rfl rfl hk
                    case hend =>
                      intro V' u k hk hkt hV'
                      have v0 : V' 0 = .pointer (some ⟨b, 0, none⟩) := hV' 0 (by omega)
                      have v1 : V' 1 = .int .i64 ((n2 : Nat) : Int) := hV' 1 (by omega)
                      have v2 : V' 2 = .int .i64 ((n2 : Nat) : Int) := hV' 2 (by omega)
                      have v3 : V' 3 = .bool false := hV' 3 (by omega)
                      have v4 : V' 4 = .bool false := hV' 4 (by omega)
                      have v5 : V' 5 = .int .i64 c := hV' 5 (by omega)
                      have v6 : V' 6 = .bool true := hV' 6 (by omega)
                      have v7 : V' 7 = .bool true := hV' 7 (by omega)
                      have v8 : V' 8 = .int .i64 ((n2 : Nat) : Int) := hV' 8 (by omega)
                      have v9 : V' 9 = .int .i64 ((n2 : Nat) : Int) := hV' 9 (by omega)
                      have v10 : V' 10 = .bool false := hV' 10 (by omega)
                      have v11 : V' 11 = .bool false := hV' 11 (by omega)
                      have v12 : V' 12 = .bool false := hV' 12 (by omega)
                      have v13 : V' 13 = .bool false := hV' 13 (by omega)
                      have v14 : V' 14 = .pointer (some ⟨b, 0, none⟩) := hV' 14 (by omega)
                      have v15 : V' 15 = .int .i64 (a'.live + a'.pending) := hV' 15 (by omega)
                      have v16 : V' 16 = .pointer (some ⟨bq, 0, none⟩) := hV' 16 (by omega)
                      have v17 : V' 17 = .int .i64 q := hV' 17 (by omega)
                      have v18 : V' 18 = .bool false := hV' 18 (by omega)
                      have v19 : V' 19 = .bool false := hV' 19 (by omega)
                      change wpList _ _ _ _ (Act.put (Act.put (Act.put (Act.put (Act.put (Act.put (Act.put (Act.put (Act.put (Act.put (Act.put (Act.put (Act.put (Act.put (Act.put (Act.put (Act.put (Act.put (Act.put (Act.put _ (some 80) (V' 0)) (some 81) (V' 1)) (some 82) (V' 2)) (some 83) (V' 3)) (some 84) (V' 4)) (some 85) (V' 5)) (some 86) (V' 6)) (some 87) (V' 7)) (some 88) (V' 8)) (some 89) (V' 9)) (some 90) (V' 10)) (some 91) (V' 11)) (some 92) (V' 12)) (some 93) (V' 13)) (some 94) (V' 14)) (some 95) (V' 15)) (some 96) (V' 16)) (some 97) (V' 17)) (some 98) (V' 18)) (some 99) (V' 19)) _
                      rw [v0, v1, v2, v3, v4, v5, v6, v7, v8, v9, v10, v11, v12, v13, v14, v15, v16, v17, v18, v19]
                      simp only [Act.put, List.setIfInBounds_toArray, List.set_cons_zero, List.set_cons_succ]
                      simp only [List.drop_succ_cons, List.drop_zero]
                      clear hV' v0 v1 v2 v3 v4 v5 v6 v7 v8 v9 v10 v11 v12 v13 v14 v15 v16 v17 v18 v19
                      go_wp2_with fail
                      exact HNEXT.out _ _ _ _ (HL9.out.keep hk) HOK8.out
          · obtain ⟨c, hc⟩ : ∃ c, putC (chTx t p m ws false) a 0 x.key nb = c := ⟨_, rfl⟩
            have HD := sc_putA HLb.out.sc (i := 1) (j := 0) (by decide) (by decide) (by decide) rfl rfl HFEW.out.1 0 x.key HKS.out Ab nb cb x.bs HNB.out (HBY0.out.keep (hOB.out.trans HLb.out.only)) (fun hne g' off' hA e => by
              have h1 := HBY0.out.lt hne hA
              have h2 := HBB.out
              have h3 := hOB.out.size
              omega)
            rw [hc] at HD
            have HOK7 := Lib.hid (HOK.out.wrote HFEW.out.2.2.2.2 c ⟨x.key.data.toList, x.bs, false⟩ ((x.key.size : Int) + nb) (fun h0 => ⟨wrC_zero (hc.trans h0), by show _ = ((x.key.data.toList.length + x.bs.length : Nat) : Int); rw [key_len, HNB.out, Int.natCast_add]⟩))
            replace HD := Lib.hid HD
            clear hc
            go_wp2_with fail
            refine HD.out.mono ?_
            rintro e w7 ⟨rfl, hs7, ho7⟩
            obtain ⟨ws', hws'⟩ : ∃ ws', wrW c ws ⟨x.key.data.toList, x.bs, false⟩ = ws' := ⟨_, rfl⟩
            obtain ⟨a', ha'⟩ : ∃ a', wrA c a (weightW ws x.key.data.toList : Nat) ((x.key.size : Int) + nb) = a' := ⟨_, rfl⟩
            have HL7 := Lib.hid (show LawSt w0 2 (osAT b a' (chTx t p m ws' false)) F w7 from by
              rw [← hws', ← ha']
              exact (HLb.out.turn hs7 ho7 (fun k hk => hk.elim (fun h => ⟨1, by decide, h⟩) (fun h => ⟨0, by decide, h⟩))).congr (osAT_set _ _ _ _ _))
            have HOK8 := Lib.hid (show ChOk q (chTx t p m ws' false) a' from by rw [← hws', ← ha']; exact HOK7.out)
            have HSAME := Lib.hid (show c ≠ 0 → bytesW ws' = np from fun h => by rw [← hws', ← HNP.out]; unfold wrW; rw [if_neg h])
            have HF7 := Lib.hid (HL7.out.few HOK8.out)
            have HWT := Lib.hid (sc_writes HL7.out.sc (i := 1) (by decide) rfl HF7.out.1)
            have hgood := Lib.hid ((HL7.out.sc.tx (i := 1) (by decide) rfl).1.set.good)
            clear hs7 ho7 hws' ha' HD HOK7
            go_wp2_with fail
            refine HWT.out.mono ?_
            rintro e w8 ⟨v8, rs, rfl, hr8, hpl8, ho8⟩
            obtain ⟨nk, hnk⟩ : ∃ nk, ws'.length = nk := ⟨_, rfl⟩
            have hrl : rs.length = nk := by
              have := congrArg List.length hpl8
              rw [List.length_map, List.length_map] at this
              rw [← hnk]
              exact this
            have hkey : ∀ r ∈ rs, r.key.size ≤ maxLen := fun r hr => by
              have h1 : r.plain ∈ ws'.map verW := by rw [show ws'.map verW = (chTx t p m ws' false).ws.map verW from rfl, ← hpl8]; exact List.mem_map.2 ⟨r, hr, rfl⟩
              obtain ⟨e, he, h2⟩ := List.mem_map.1 h1
              have h3 : r.key = ⟨e.key.toArray⟩ := (congrArg Prod.fst h2).symm
              rw [h3]
              show e.key.toArray.size ≤ maxLen
              rw [List.size_toArray]
              have := (hgood.out e he).2.1
              unfold maxLen
              omega
            obtain ⟨A8, c8, rfl, hRA⟩ := hr8.rat hkey
            have HRA := Lib.hid hRA
            have HPL := Lib.hid (show rs.map VRow.plain = ws'.map verW from hpl8)
            have HNK := Lib.hid hnk
            have HRL := Lib.hid hrl
            have HO8 := Lib.hid ho8
            have hs8 := ho8.size
            have hB7 := HF7.out.2.1
            have hnkb : nk ≤ 1048576 := by rw [← hnk]; exact HF7.out.1
            rw [hrl]
            clear hr8 hpl8 hkey hnk hrl ho8 hRA HWT
            go_wp2_with fail
            go_loopw [12, 66] (fun vn vi wr' => NRel w8 ws' nk vn vi wr') (fun _ vi _ => nk - (intOf vi).toNat)
            case atStart => exact ⟨0, by omega, rfl, rfl, Only.refl _ _⟩
            case round =>
              obtain ⟨k, hk, rfl, rfl, hO⟩ := hrel
              have HO := Lib.hid hO
              clear hO
              by_cases hkl : k < nk
              · have hwi : ws'[k]? = some (ws'[k]'(by rw [HNK.out]; exact hkl)) := List.getElem?_eq_getElem _
                generalize ws'[k]'(by rw [HNK.out]; exact hkl) = y at hwi
                have hri : rs[k]? = some (rs[k]'(by rw [HRL.out]; exact hkl)) := List.getElem?_eq_getElem _
                generalize rs[k]'(by rw [HRL.out]; exact hkl) = r at hri
                have hrp : r.plain = verW y := by
                  have h1 : (rs.map VRow.plain)[k]? = (ws'.map verW)[k]? := by rw [HPL.out]
                  rw [List.getElem?_map, List.getElem?_map, hri, hwi] at h1
                  exact Option.some.inj h1
                obtain ⟨g8, o8, Av8, cv8, rfl, hg8, f0, f1, f2, f3, _, _, _⟩ := (HRA.out.keep HO.out) k r hri
                have hkz : r.key.size = y.key.length := by rw [show r.key = ⟨y.key.toArray⟩ from congrArg Prod.fst hrp]; show y.key.toArray.size = _; rw [List.size_toArray]
                have hbz : r.bs.length = y.bs.length := by rw [show r.bs = y.bs from congrArg (fun z => z.2.bs) hrp]
                have htk := bytesW_take hwi
                have htl := bytesW_take_le ws' (k + 1)
                obtain ⟨nn, hnn⟩ : ∃ nn, bytesW (ws'.take k) = nn := ⟨_, rfl⟩
                obtain ⟨kz, hkz2⟩ : ∃ kz, r.key.size = kz := ⟨_, rfl⟩
                obtain ⟨bz, hbz2⟩ : ∃ bz, r.bs.length = bz := ⟨_, rfl⟩
                have HT := Lib.hid (show bytesW (ws'.take (k + 1)) = nn + (kz + bz) by rw [htk, hnn, ← hkz2, ← hbz2, hkz, hbz])
                have hsm : nn + (kz + bz) ≤ 1048576 := by rw [← HT.out]; exact Nat.le_trans htl hB7
                rw [hnn]
                rw [hbz2] at f2
                clear hwi hri hrp htk htl hnn hkz hbz hbz2
                go_wp2_with fail
                exact ⟨⟨k + 1, by omega, by rw [HT.out, Int.natCast_add, Int.natCast_add], by rw [show ((k + 1 : Nat) : Int) = (k : Int) + 1 by omega], HO.out.trans (by repeat (first | exact Only.refl _ _ | refine Only.alloc ?_ _))⟩, by simp [intOf]; omega⟩
              · obtain rfl : k = nk := by omega
                have htk : ws'.take k = ws' := by rw [← HNK.out, List.take_length]
                rw [htk]
                obtain ⟨n2, hn2⟩ : ∃ n2, bytesW ws' = n2 := ⟨_, rfl⟩
                have HL9 := Lib.hid (HL7.out.keep (HO8.out.trans HO.out))
                have HP2 := Lib.hid (show a'.pending = ((n2 : Nat) : Int) by rw [← hn2]; exact HOK8.out.pend)
                have hlu : decide (q < a'.live + a'.pending) = false := decide_eq_false (by have := HF7.out.2.2.1; omega)
                rw [hn2]
                have HSM := Lib.hid (show c ≠ 0 → n2 = np from fun h => by rw [← hn2]; exact HSAME.out h)
                clear htk hn2
                by_cases hc0 : c = 0
                · subst hc0
                  go_upto_region 24 with (fail)
                  refine wp_region_head2 20 121 [4, 7, 13] (fun g => match g with | 4 => some false | 7 => some false | 13 => some false | _ => none) (fun _ => none) NoneOf (fun _ => Only NoneOf wr) (ConstT fun i => match i with | 0 => .pointer (some ⟨b, 0, none⟩) | 1 => .int .i64 ((n2 : Nat) : Int) | 2 => .int .i64 ((n2 : Nat) : Int) | 3 => .bool false | 4 => .bool false | 5 => .int .i64 0 | 6 => .bool false | 7 => .bool false | 8 => undef | 9 => undef | 10 => undef | 11 => .bool false | 12 => .bool false | 13 => .bool false | 14 => .pointer (some ⟨b, 0, none⟩) | 15 => .int .i64 (a'.live + a'.pending) | 16 => .pointer (some ⟨bq, 0, none⟩) | 17 => .int .i64 q | 18 => .bool false | _ => .bool false) rfl (by kernel_rfl) (by kernel_rfl) ?hskip ?hgv (fun _ _ _ _ h _ => h) ((Only.refl _ _).drew) ?hstep ?hend
                  case hskip =>
                    intro i o hi ho hw k
                    have : i = 0 ∨ i = 1 ∨ i = 2 ∨ i = 3 ∨ i = 4 ∨ i = 5 ∨ i = 6 ∨ i = 7 ∨ i = 8 ∨ i = 9 ∨ i = 10 ∨ i = 11 ∨ i = 12 ∨ i = 13 ∨ i = 14 ∨ i = 15 ∨ i = 16 ∨ i = 17 ∨ i = 18 ∨ i = 19 := by omega
                    rcases this with rfl | rfl | rfl | rfl | rfl | rfl | rfl | rfl | rfl | rfl | rfl | rfl | rfl | rfl | rfl | rfl | rfl | rfl | rfl | rfl
                    · rfl
                    · rfl
                    · rfl
                    · rfl
                    · rfl
                    · rfl
                    · rfl
                    · rfl
                    · rfl
                    · rfl
                    · rfl
                    · rfl
                    · rfl
                    · rfl
                    · rfl
                    · rfl
                    · rfl
                    · rfl
                    · rfl
                    · rfl
                  case hgv =>
                    intro g hg v w h
                    have : g = 4 ∨ g = 7 ∨ g = 13 := by simpa using hg
                    rcases this with rfl | rfl | rfl
                    · obtain rfl : v = .bool false := h; rfl
                    · obtain rfl : v = .bool false := h; rfl
                    · obtain rfl : v = .bool false := h; rfl
                  case hstep =>
                    intro i o hi ho a u k hk hik hs ht
                    have e5 : a.tmps.getD 5 undef = .pointer (some ⟨b, 0, none⟩) := hs 5 (of_decide_eq_true (by kernel_rfl))
                    have e12 : a.tmps.getD 12 undef = .int .i64 ((n2 : Nat) : Int) := hs 12 (of_decide_eq_true (by kernel_rfl))
                    have e6 : a.tmps.getD 6 undef = .int .i64 0 := hs 6 (of_decide_eq_true (by kernel_rfl))
                    have e2 : a.tmps.getD 2 undef = .pointer (some ⟨bq, 0, none⟩) := hs 2 (of_decide_eq_true (by kernel_rfl))
                    have cq := (HBQ.out.only (HL9.out.only.trans hk) (fun h => h)).cellv 0 rfl
                    have : i = 0 ∨ i = 1 ∨ i = 2 ∨ i = 3 ∨ i = 4 ∨ i = 5 ∨ i = 6 ∨ i = 7 ∨ i = 8 ∨ i = 9 ∨ i = 10 ∨ i = 11 ∨ i = 12 ∨ i = 13 ∨ i = 14 ∨ i = 15 ∨ i = 16 ∨ i = 17 ∨ i = 18 ∨ i = 19 := by omega
                    rcases this with rfl | rfl | rfl | rfl | rfl | rfl | rfl | rfl | rfl | rfl | rfl | rfl | rfl | rfl | rfl | rfl | rfl | rfl | rfl | rfl
                    · obtain rfl := Option.some.inj (ho : some _ = some o)
                      rw [if_pos (by decide)]
                      exact left2_value (.pointer (some ⟨b, 0, none⟩)) (by simp [go_sem, e5]) rfl rfl hk
                    · obtain rfl := Option.some.inj (ho : some _ = some o)
                      rw [if_pos (by decide)]
                      have s0 : a.tmps.getD 80 undef = .pointer (some ⟨b, 0, none⟩) := ht 0 (by omega) (by kernel_rfl)
                      refine left2_calls 17 #[.pointer (some ⟨b, 0, none⟩)] (by simp [go_sem, s0]) ((sc_pending (HL9.out.keep hk).sc (j := 0) (by decide) rfl).mono ?_) rfl (fun w' hw' => hk.trans hw')
                      rintro e u' ⟨rfl, rfl⟩
                      exact ⟨_, rfl, by rw [HP2.out]; rfl, Only.refl _ _⟩
                    · obtain rfl := Option.some.inj (ho : some _ = some o)
                      rw [if_pos (by decide)]
                      exact left2_value (.int .i64 ((n2 : Nat) : Int)) (by simp [go_sem, e12]) rfl rfl hk
                    · obtain rfl := Option.some.inj (ho : some _ = some o)
                      rw [if_pos (by decide)]
                      have s1 : a.tmps.getD 81 undef = .int .i64 ((n2 : Nat) : Int) := ht 1 (by omega) (by kernel_rfl)
                      have s2 : a.tmps.getD 82 undef = .int .i64 ((n2 : Nat) : Int) := ht 2 (by omega) (by kernel_rfl)
                      exact left2_value (.bool false) (by simp [go_sem, s1, s2]) rfl rfl hk
                    · obtain rfl := Option.some.inj (ho : some _ = some o)
                      rw [if_pos (by decide)]
                      have s1 : a.tmps.getD 81 undef = .int .i64 ((n2 : Nat) : Int) := ht 1 (by omega) (by kernel_rfl)
                      have s3 : a.tmps.getD 83 undef = .bool false := ht 3 (by omega) (by kernel_rfl)
                      exact left2_value (.bool false) (by simp [go_sem, s3]) rfl rfl hk
                    · obtain rfl := Option.some.inj (ho : some _ = some o)
                      rw [if_pos (by decide)]
                      exact left2_value (.int .i64 0) (by simp [go_sem, e6]) rfl rfl hk
                    · obtain rfl := Option.some.inj (ho : some _ = some o)
                      rw [if_pos (by decide)]
                      have s5 : a.tmps.getD 85 undef = .int .i64 0 := ht 5 (by omega) (by kernel_rfl)
                      exact left2_value (.bool false) (by simp [go_sem, s5]) rfl rfl hk
                    · obtain rfl := Option.some.inj (ho : some _ = some o)
                      rw [if_pos (by decide)]
                      have s4 : a.tmps.getD 84 undef = .bool false := ht 4 (by omega) (by kernel_rfl)
                      have s6 : a.tmps.getD 86 undef = .bool false := ht 6 (by omega) (by kernel_rfl)
                      exact left2_value (.bool false) (by simp [go_sem, s6]) rfl rfl hk
                    · obtain rfl := Option.some.inj (ho : some _ = some o)
                      rw [if_neg (by decide)]
                      exact rfl
                    · obtain rfl := Option.some.inj (ho : some _ = some o)
                      rw [if_neg (by decide)]
                      exact rfl
                    · obtain rfl := Option.some.inj (ho : some _ = some o)
                      rw [if_neg (by decide)]
                      exact rfl
                    · obtain rfl := Option.some.inj (ho : some _ = some o)
                      rw [if_pos (by decide)]
                      have s7 : a.tmps.getD 87 undef = .bool false := ht 7 (by omega) (by kernel_rfl)
                      have s10 : a.tmps.getD 90 undef = undef := ht 10 (by omega) (by kernel_rfl)
                      exact left2_value (.bool false) (by simp [go_sem, s7, s10]) rfl rfl hk
                    · obtain rfl := Option.some.inj (ho : some _ = some o)
                      rw [if_pos (by decide)]
                      have s4 : a.tmps.getD 84 undef = .bool false := ht 4 (by omega) (by kernel_rfl)
                      have s11 : a.tmps.getD 91 undef = .bool false := ht 11 (by omega) (by kernel_rfl)
                      exact left2_value (.bool false) (by simp [go_sem, s4, s11]) rfl rfl hk
                    · obtain rfl := Option.some.inj (ho : some _ = some o)
                      rw [if_pos (by decide)]
                      have s7 : a.tmps.getD 87 undef = .bool false := ht 7 (by omega) (by kernel_rfl)
                      have s12 : a.tmps.getD 92 undef = .bool false := ht 12 (by omega) (by kernel_rfl)
                      exact left2_value (.bool false) (by simp [go_sem, s12]) rfl rfl hk
                    · obtain rfl := Option.some.inj (ho : some _ = some o)
                      rw [if_pos (by decide)]
                      exact left2_value (.pointer (some ⟨b, 0, none⟩)) (by simp [go_sem, e5]) rfl rfl hk
                    · obtain rfl := Option.some.inj (ho : some _ = some o)
                      rw [if_pos (by decide)]
                      have s13 : a.tmps.getD 93 undef = .bool false := ht 13 (by omega) (by kernel_rfl)
                      have s14 : a.tmps.getD 94 undef = .pointer (some ⟨b, 0, none⟩) := ht 14 (by omega) (by kernel_rfl)
                      obtain ⟨hA9, hok9, _⟩ := (HL9.out.keep hk).sc.ac (i := 0) (by decide) rfl
                      refine left2_calls 19 #[.pointer (some ⟨b, 0, none⟩)] (by simp [go_sem, s14]) ((Qa.used_has b a' u hA9 hok9).mono ?_) rfl (fun w' hw' => hk.trans hw')
                      rintro e u' ⟨rfl, m, rfl⟩
                      exact ⟨_, rfl, rfl, (Only.refl _ _).drewN m⟩
                    · obtain rfl := Option.some.inj (ho : some _ = some o)
                      rw [if_pos (by decide)]
                      exact left2_value (.pointer (some ⟨bq, 0, none⟩)) (by simp [go_sem, e2]) rfl rfl hk
                    · obtain rfl := Option.some.inj (ho : some _ = some o)
                      rw [if_pos (by decide)]
                      have s16 : a.tmps.getD 96 undef = .pointer (some ⟨bq, 0, none⟩) := ht 16 (by omega) (by kernel_rfl)
                      exact left2_value (.int .i64 q) (by simp [go_sem, s16, cq]) rfl rfl hk
                    · obtain rfl := Option.some.inj (ho : some _ = some o)
                      rw [if_pos (by decide)]
                      have s15 : a.tmps.getD 95 undef = .int .i64 (a'.live + a'.pending) := ht 15 (by omega) (by kernel_rfl)
                      have s17 : a.tmps.getD 97 undef = .int .i64 q := ht 17 (by omega) (by kernel_rfl)
                      exact left2_value (.bool false) (by simp [go_sem, s15, s17, hlu]) rfl rfl hk
                    · obtain rfl := Option.some.inj (ho : some _ = some o)
                      rw [if_pos (by decide)]
                      have s13 : a.tmps.getD 93 undef = .bool false := ht 13 (by omega) (by kernel_rfl)
                      have s18 : a.tmps.getD 98 undef = .bool false := ht 18 (by omega) (by kernel_rfl)
                      exact left2_value (.bool false) (by simp [go_sem, s13, s18]) rfl rfl hk
                  case hend =>
                    intro V' u k hk hkt hV'
                    have v0 : V' 0 = .pointer (some ⟨b, 0, none⟩) := hV' 0 (by omega)
                    have v1 : V' 1 = .int .i64 ((n2 : Nat) : Int) := hV' 1 (by omega)
                    have v2 : V' 2 = .int .i64 ((n2 : Nat) : Int) := hV' 2 (by omega)
                    have v3 : V' 3 = .bool false := hV' 3 (by omega)
                    have v4 : V' 4 = .bool false := hV' 4 (by omega)
                    have v5 : V' 5 = .int .i64 0 := hV' 5 (by omega)
                    have v6 : V' 6 = .bool false := hV' 6 (by omega)
                    have v7 : V' 7 = .bool false := hV' 7 (by omega)
                    have v8 : V' 8 = undef := hV' 8 (by omega)
                    have v9 : V' 9 = undef := hV' 9 (by omega)
                    have v10 : V' 10 = undef := hV' 10 (by omega)
                    have v11 : V' 11 = .bool false := hV' 11 (by omega)
                    have v12 : V' 12 = .bool false := hV' 12 (by omega)
                    have v13 : V' 13 = .bool false := hV' 13 (by omega)
                    have v14 : V' 14 = .pointer (some ⟨b, 0, none⟩) := hV' 14 (by omega)
                    have v15 : V' 15 = .int .i64 (a'.live + a'.pending) := hV' 15 (by omega)
                    have v16 : V' 16 = .pointer (some ⟨bq, 0, none⟩) := hV' 16 (by omega)
                    have v17 : V' 17 = .int .i64 q := hV' 17 (by omega)
                    have v18 : V' 18 = .bool false := hV' 18 (by omega)
                    have v19 : V' 19 = .bool false := hV' 19 (by omega)
                    change wpList _ _ _ _ (Act.put (Act.put (Act.put (Act.put (Act.put (Act.put (Act.put (Act.put (Act.put (Act.put (Act.put (Act.put (Act.put (Act.put (Act.put (Act.put (Act.put (Act.put (Act.put (Act.put _ (some 80) (V' 0)) (some 81) (V' 1)) (some 82) (V' 2)) (some 83) (V' 3)) (some 84) (V' 4)) (some 85) (V' 5)) (some 86) (V' 6)) (some 87) (V' 7)) (some 88) (V' 8)) (some 89) (V' 9)) (some 90) (V' 10)) (some 91) (V' 11)) (some 92) (V' 12)) (some 93) (V' 13)) (some 94) (V' 14)) (some 95) (V' 15)) (some 96) (V' 16)) (some 97) (V' 17)) (some 98) (V' 18)) (some 99) (V' 19)) _
                    rw [v0, v1, v2, v3, v4, v5, v6, v7, v8, v9, v10, v11, v12, v13, v14, v15, v16, v17, v18, v19]
                    simp only [Act.put, List.setIfInBounds_toArray, List.set_cons_zero, List.set_cons_succ]
                    simp only [List.drop_succ_cons, List.drop_zero]
                    clear hV' v0 v1 v2 v3 v4 v5 v6 v7 v8 v9 v10 v11 v12 v13 v14 v15 v16 v17 v18 v19
                    go_wp2_with fail
                    exact HNEXT.out _ _ _ _ (HL9.out.keep hk) HOK8.out
                · obtain rfl := HSM.out hc0
                  have hcb : (c != 0) = true := by simp [hc0]
                  go_upto_region 24 with (fail)
                  refine wp_region_head2 20 121 [4, 7, 13] (fun g => match g with | 4 => some false | 7 => some true | 13 => some false | _ => none) (fun _ => none) NoneOf (fun _ => Only NoneOf wr) (ConstT fun i => match i with | 0 => .pointer (some ⟨b, 0, none⟩) | 1 => .int .i64 ((n2 : Nat) : Int) | 2 => .int .i64 ((n2 : Nat) : Int) | 3 => .bool false | 4 => .bool false | 5 => .int .i64 c | 6 => .bool true | 7 => .bool true | 8 => .int .i64 ((n2 : Nat) : Int) | 9 => .int .i64 ((n2 : Nat) : Int) | 10 => .bool false | 11 => .bool false | 12 => .bool false | 13 => .bool false | 14 => .pointer (some ⟨b, 0, none⟩) | 15 => .int .i64 (a'.live + a'.pending) | 16 => .pointer (some ⟨bq, 0, none⟩) | 17 => .int .i64 q | 18 => .bool false | _ => .bool false) rfl (by kernel_rfl) (by kernel_rfl) ?hskip ?hgv (fun _ _ _ _ h _ => h) ((Only.refl _ _).drew) ?hstep ?hend
                  case hskip =>
                    intro i o hi ho hw k
                    have : i = 0 ∨ i = 1 ∨ i = 2 ∨ i = 3 ∨ i = 4 ∨ i = 5 ∨ i = 6 ∨ i = 7 ∨ i = 8 ∨ i = 9 ∨ i = 10 ∨ i = 11 ∨ i = 12 ∨ i = 13 ∨ i = 14 ∨ i = 15 ∨ i = 16 ∨ i = 17 ∨ i = 18 ∨ i = 19 := by omega
                    rcases this with rfl | rfl | rfl | rfl | rfl | rfl | rfl | rfl | rfl | rfl | rfl | rfl | rfl | rfl | rfl | rfl | rfl | rfl | rfl | rfl
                    · rfl
                    · rfl
                    · rfl
                    · rfl
                    · rfl
                    · rfl
                    · rfl
                    · rfl
                    · rfl
                    · rfl
                    · rfl
                    · rfl
                    · rfl
                    · rfl
                    · rfl
                    · rfl
                    · rfl
                    · rfl
                    · rfl
                    · rfl
                  case hgv =>
                    intro g hg v w h
                    have : g = 4 ∨ g = 7 ∨ g = 13 := by simpa using hg
                    rcases this with rfl | rfl | rfl
                    · obtain rfl : v = .bool false := h; rfl
                    · obtain rfl : v = .bool true := h; rfl
                    · obtain rfl : v = .bool false := h; rfl
                  case hstep =>
                    intro i o hi ho a u k hk hik hs ht
                    have e5 : a.tmps.getD 5 undef = .pointer (some ⟨b, 0, none⟩) := hs 5 (of_decide_eq_true (by kernel_rfl))
                    have e12 : a.tmps.getD 12 undef = .int .i64 ((n2 : Nat) : Int) := hs 12 (of_decide_eq_true (by kernel_rfl))
                    have e6 : a.tmps.getD 6 undef = .int .i64 c := hs 6 (of_decide_eq_true (by kernel_rfl))
                    have e2 : a.tmps.getD 2 undef = .pointer (some ⟨bq, 0, none⟩) := hs 2 (of_decide_eq_true (by kernel_rfl))
                    have e11 : a.tmps.getD 11 undef = .int .i64 ((n2 : Nat) : Int) := hs 11 (of_decide_eq_true (by kernel_rfl))
                    have cq := (HBQ.out.only (HL9.out.only.trans hk) (fun h => h)).cellv 0 rfl
                    have : i = 0 ∨ i = 1 ∨ i = 2 ∨ i = 3 ∨ i = 4 ∨ i = 5 ∨ i = 6 ∨ i = 7 ∨ i = 8 ∨ i = 9 ∨ i = 10 ∨ i = 11 ∨ i = 12 ∨ i = 13 ∨ i = 14 ∨ i = 15 ∨ i = 16 ∨ i = 17 ∨ i = 18 ∨ i = 19 := by omega
                    rcases this with rfl | rfl | rfl | rfl | rfl | rfl | rfl | rfl | rfl | rfl | rfl | rfl | rfl | rfl | rfl | rfl | rfl | rfl | rfl | rfl
                    · obtain rfl := Option.some.inj (ho : some _ = some o)
                      rw [if_pos (by decide)]
                      exact left2_value (.pointer (some ⟨b, 0, none⟩)) (by simp [go_sem, e5]) rfl rfl hk
                    · obtain rfl := Option.some.inj (ho : some _ = some o)
                      rw [if_pos (by decide)]
                      have s0 : a.tmps.getD 80 undef = .pointer (some ⟨b, 0, none⟩) := ht 0 (by omega) (by kernel_rfl)
                      refine left2_calls 17 #[.pointer (some ⟨b, 0, none⟩)] (by simp [go_sem, s0]) ((sc_pending (HL9.out.keep hk).sc (j := 0) (by decide) rfl).mono ?_) rfl (fun w' hw' => hk.trans hw')
                      rintro e u' ⟨rfl, rfl⟩
                      exact ⟨_, rfl, by rw [HP2.out]; rfl, Only.refl _ _⟩
                    · obtain rfl := Option.some.inj (ho : some _ = some o)
                      rw [if_pos (by decide)]
                      exact left2_value (.int .i64 ((n2 : Nat) : Int)) (by simp [go_sem, e12]) rfl rfl hk
                    · obtain rfl := Option.some.inj (ho : some _ = some o)
                      rw [if_pos (by decide)]
                      have s1 : a.tmps.getD 81 undef = .int .i64 ((n2 : Nat) : Int) := ht 1 (by omega) (by kernel_rfl)
                      have s2 : a.tmps.getD 82 undef = .int .i64 ((n2 : Nat) : Int) := ht 2 (by omega) (by kernel_rfl)
                      exact left2_value (.bool false) (by simp [go_sem, s1, s2]) rfl rfl hk
                    · obtain rfl := Option.some.inj (ho : some _ = some o)
                      rw [if_pos (by decide)]
                      have s1 : a.tmps.getD 81 undef = .int .i64 ((n2 : Nat) : Int) := ht 1 (by omega) (by kernel_rfl)
                      have s3 : a.tmps.getD 83 undef = .bool false := ht 3 (by omega) (by kernel_rfl)
                      exact left2_value (.bool false) (by simp [go_sem, s3]) rfl rfl hk
                    · obtain rfl := Option.some.inj (ho : some _ = some o)
                      rw [if_pos (by decide)]
                      exact left2_value (.int .i64 c) (by simp [go_sem, e6]) rfl rfl hk
                    · obtain rfl := Option.some.inj (ho : some _ = some o)
                      rw [if_pos (by decide)]
                      have s5 : a.tmps.getD 85 undef = .int .i64 c := ht 5 (by omega) (by kernel_rfl)
                      exact left2_value (.bool true) (by simp [go_sem, s5, hcb]) rfl rfl hk
                    · obtain rfl := Option.some.inj (ho : some _ = some o)
                      rw [if_pos (by decide)]
                      have s4 : a.tmps.getD 84 undef = .bool false := ht 4 (by omega) (by kernel_rfl)
                      have s6 : a.tmps.getD 86 undef = .bool true := ht 6 (by omega) (by kernel_rfl)
                      exact left2_value (.bool true) (by simp [go_sem, s6]) rfl rfl hk
                    · obtain rfl := Option.some.inj (ho : some _ = some o)
                      rw [if_pos (by decide)]
                      exact left2_value (.int .i64 ((n2 : Nat) : Int)) (by simp [go_sem, e12]) rfl rfl hk
                    · obtain rfl := Option.some.inj (ho : some _ = some o)
                      rw [if_pos (by decide)]
                      exact left2_value (.int .i64 ((n2 : Nat) : Int)) (by simp [go_sem, e11]) rfl rfl hk
                    · obtain rfl := Option.some.inj (ho : some _ = some o)
                      rw [if_pos (by decide)]
                      have s8 : a.tmps.getD 88 undef = .int .i64 ((n2 : Nat) : Int) := ht 8 (by omega) (by kernel_rfl)
                      have s9 : a.tmps.getD 89 undef = .int .i64 ((n2 : Nat) : Int) := ht 9 (by omega) (by kernel_rfl)
                      exact left2_value (.bool false) (by simp [go_sem, s8, s9]) rfl rfl hk
                    · obtain rfl := Option.some.inj (ho : some _ = some o)
                      rw [if_pos (by decide)]
                      have s7 : a.tmps.getD 87 undef = .bool true := ht 7 (by omega) (by kernel_rfl)
                      have s10 : a.tmps.getD 90 undef = .bool false := ht 10 (by omega) (by kernel_rfl)
                      exact left2_value (.bool false) (by simp [go_sem, s7, s10]) rfl rfl hk
                    · obtain rfl := Option.some.inj (ho : some _ = some o)
                      rw [if_pos (by decide)]
                      have s4 : a.tmps.getD 84 undef = .bool false := ht 4 (by omega) (by kernel_rfl)
                      have s11 : a.tmps.getD 91 undef = .bool false := ht 11 (by omega) (by kernel_rfl)
                      exact left2_value (.bool false) (by simp [go_sem, s4, s11]) rfl rfl hk
                    · obtain rfl := Option.some.inj (ho : some _ = some o)
                      rw [if_pos (by decide)]
                      have s7 : a.tmps.getD 87 undef = .bool true := ht 7 (by omega) (by kernel_rfl)
                      have s12 : a.tmps.getD 92 undef = .bool false := ht 12 (by omega) (by kernel_rfl)
                      exact left2_value (.bool false) (by simp [go_sem, s12]) rfl rfl hk
                    · obtain rfl := Option.some.inj (ho : some _ = some o)
                      rw [if_pos (by decide)]
                      exact left2_value (.pointer (some ⟨b, 0, none⟩)) (by simp [go_sem, e5]) rfl rfl hk
                    · obtain rfl := Option.some.inj (ho : some _ = some o)
                      rw [if_pos (by decide)]
                      have s13 : a.tmps.getD 93 undef = .bool false := ht 13 (by omega) (by kernel_rfl)
                      have s14 : a.tmps.getD 94 undef = .pointer (some ⟨b, 0, none⟩) := ht 14 (by omega) (by kernel_rfl)
                      obtain ⟨hA9, hok9, _⟩ := (HL9.out.keep hk).sc.ac (i := 0) (by decide) rfl
                      refine left2_calls 19 #[.pointer (some ⟨b, 0, none⟩)] (by simp [go_sem, s14]) ((Qa.used_has b a' u hA9 hok9).mono ?_) rfl (fun w' hw' => hk.trans hw')
                      rintro e u' ⟨rfl, m, rfl⟩
                      exact ⟨_, rfl, rfl, (Only.refl _ _).drewN m⟩
                    · obtain rfl := Option.some.inj (ho : some _ = some o)
                      rw [if_pos (by decide)]
                      exact left2_value (.pointer (some ⟨bq, 0, none⟩)) (by simp [go_sem, e2]) rfl rfl hk
                    · obtain rfl := Option.some.inj (ho : some _ = some o)
                      rw [if_pos (by decide)]
                      have s16 : a.tmps.getD 96 undef = .pointer (some ⟨bq, 0, none⟩) := ht 16 (by omega) (by kernel_rfl)
                      exact left2_value (.int .i64 q) (by simp [go_sem, s16, cq]) rfl rfl hk
                    · obtain rfl := Option.some.inj (ho : some _ = some o)
                      rw [if_pos (by decide)]
                      have s15 : a.tmps.getD 95 undef = .int .i64 (a'.live + a'.pending) := ht 15 (by omega) (by kernel_rfl)
                      have s17 : a.tmps.getD 97 undef = .int .i64 q := ht 17 (by omega) (by kernel_rfl)
                      exact left2_value (.bool false) (by simp [go_sem, s15, s17, hlu]) rfl rfl hk
                    · obtain rfl := Option.some.inj (ho : some _ = some o)
                      rw [if_pos (by decide)]
                      have s13 : a.tmps.getD 93 undef = .bool false := ht 13 (by omega) (by kernel_rfl)
                      have s18 : a.tmps.getD 98 undef = .bool false := ht 18 (by omega) (by kernel_rfl)
                      exact left2_value (.bool false) (by simp [go_sem, s13, s18]) rfl rfl hk
                  case hend =>
                    intro V' u k hk hkt hV'
                    have v0 : V' 0 = .pointer (some ⟨b, 0, none⟩) := hV' 0 (by omega)
                    have v1 : V' 1 = .int .i64 ((n2 : Nat) : Int) := hV' 1 (by omega)
                    have v2 : V' 2 = .int .i64 ((n2 : Nat) : Int) := hV' 2 (by omega)
                    have v3 : V' 3 = .bool false := hV' 3 (by omega)
                    have v4 : V' 4 = .bool false := hV' 4 (by omega)
                    have v5 : V' 5 = .int .i64 c := hV' 5 (by omega)
                    have v6 : V' 6 = .bool true := hV' 6 (by omega)
                    have v7 : V' 7 = .bool true := hV' 7 (by omega)
                    have v8 : V' 8 = .int .i64 ((n2 : Nat) : Int) := hV' 8 (by omega)
                    have v9 : V' 9 = .int .i64 ((n2 : Nat) : Int) := hV' 9 (by omega)
                    have v10 : V' 10 = .bool false := hV' 10 (by omega)
                    have v11 : V' 11 = .bool false := hV' 11 (by omega)
                    have v12 : V' 12 = .bool false := hV' 12 (by omega)
                    have v13 : V' 13 = .bool false := hV' 13 (by omega)
                    have v14 : V' 14 = .pointer (some ⟨b, 0, none⟩) := hV' 14 (by omega)
                    have v15 : V' 15 = .int .i64 (a'.live + a'.pending) := hV' 15 (by omega)
                    have v16 : V' 16 = .pointer (some ⟨bq, 0, none⟩) := hV' 16 (by omega)
                    have v17 : V' 17 = .int .i64 q := hV' 17 (by omega)
                    have v18 : V' 18 = .bool false := hV' 18 (by omega)
                    have v19 : V' 19 = .bool false := hV' 19 (by omega)
                    change wpList _ _ _ _ (Act.put (Act.put (Act.put (Act.put (Act.put (Act.put (Act.put (Act.put (Act.put (Act.put (Act.put (Act.put (Act.put (Act.put (Act.put (Act.put (Act.put (Act.put (Act.put (Act.put _ (some 80) (V' 0)) (some 81) (V' 1)) (some 82) (V' 2)) (some 83) (V' 3)) (some 84) (V' 4)) (some 85) (V' 5)) (some 86) (V' 6)) (some 87) (V' 7)) (some 88) (V' 8)) (some 89) (V' 9)) (some 90) (V' 10)) (some 91) (V' 11)) (some 92) (V' 12)) (some 93) (V' 13)) (some 94) (V' 14)) (some 95) (V' 15)) (some 96) (V' 16)) (some 97) (V' 17)) (some 98) (V' 18)) (some 99) (V' 19)) _
                    rw [v0, v1, v2, v3, v4, v5, v6, v7, v8, v9, v10, v11, v12, v13, v14, v15, v16, v17, v18, v19]
                    simp only [Act.put, List.setIfInBounds_toArray, List.set_cons_zero, List.set_cons_succ]
                    simp only [List.drop_succ_cons, List.drop_zero]
                    clear hV' v0 v1 v2 v3 v4 v5 v6 v7 v8 v9 v10 v11 v12 v13 v14 v15 v16 v17 v18 v19
                    go_wp2_with fail
                    exact HNEXT.out _ _ _ _ (HL9.out.keep hk) HOK8.out
        · obtain rfl : i = n := by omega
          have HE := sc_end HL.out.sc (i := 1) (j := 0) (by decide) (by decide) (by decide) rfl rfl
          have hdo : a.doEnd ((bytesW ws : Nat) : Int) = ({ a with opened := 0, pending := 0 }, 0) := by
            unfold Ac.doEnd
            have h1 := HOK.out.opn
            have h2 : a.pending = (bytesW ws : Nat) := HOK.out.pend
            rw [if_neg (by omega), if_neg (by omega), h1, h2]
            simp
          rw [show endC (chTx t p m ws false).ended a (bytesW (chTx t p m ws false).ws) = 0 from by show (a.doEnd ((bytesW ws : Nat) : Int)).2 = 0; rw [hdo], show endA (chTx t p m ws false).ended a (bytesW (chTx t p m ws false).ws) = { a with opened := 0, pending := 0 } from by show (a.doEnd ((bytesW ws : Nat) : Int)).1 = _; rw [hdo]] at HE
          replace HE := Lib.hid HE
          clear hdo
          go_wp2_with fail
          refine HE.out.mono ?_
          rintro e w7 ⟨rfl, hs7, ho7⟩
          have HL7 := Lib.hid (show LawSt w0 2 (osAT b { a with opened := 0, pending := 0 } (chTx t p m ws true)) F w7 from (HL.out.turn hs7 ho7 (fun k hk => hk.elim (fun h => ⟨1, by decide, h⟩) (fun h => ⟨0, by decide, h⟩))).congr (osAT_set _ _ _ _ _))
          have HPD := Lib.hid (sc_pending HL7.out.sc (j := 0) (by decide) rfl)
          have HOP := Lib.hid (Qa.open_has b _ w7 (HL7.out.sc.ac (i := 0) (by decide) rfl).1)
          have HE2 := sc_end HL7.out.sc (i := 1) (j := 0) (by decide) (by decide) (by decide) rfl rfl
          rw [show endC (chTx t p m ws true).ended { a with opened := 0, pending := 0 } (bytesW (chTx t p m ws true).ws) = 173 from rfl] at HE2
          replace HE2 := Lib.hid HE2
          clear hs7 ho7 HE
          go_wp2_with fail
          refine HPD.out.mono ?_
          rintro e w8 ⟨rfl, rfl⟩
          go_wp2_with fail
          refine HOP.out.mono ?_
          rintro e w8 ⟨rfl, rfl⟩
          go_wp2_with fail
          refine HE2.out.mono ?_
          rintro e w8 ⟨rfl, hs8, ho8⟩
          have HL8 := Lib.hid (HL7.out.turn hs8 ho8 (fun k hk => hk.elim (fun h => ⟨1, by decide, h⟩) (fun h => ⟨0, by decide, h⟩)))
          clear hs8 ho8 HE2 HPD HOP
          go_wp2_with fail
          go_ret
          exact ⟨rfl, hOB.out.trans HL8.out.only⟩
  · refine (Qa.new_bad q o z1 z2 z3 w0 hlim).mono ?_
    rintro e w1 ⟨rfl, ho1⟩
    have HO1 := Lib.hid (hOB.out.trans ho1)
    clear ho1
    go_wp2_with fail
    refine (HFX _).out.mono ?_; rintro e w2 ⟨rfl, ho2⟩
    have HO2 := Lib.hid (HO1.out.trans ho2)
    clear ho2
    go_wp2_with fail
    go_ret
    exact ⟨rfl, HO2.out⟩

end Go.Proofs.Ytbhihbhjmmeibaa

