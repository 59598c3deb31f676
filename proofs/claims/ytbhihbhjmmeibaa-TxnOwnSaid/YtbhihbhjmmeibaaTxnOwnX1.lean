/-
  Layer 17's law TxnOwn walked.
-/
import Derived.Test.YtbhihbhjmmeibaaM6
namespace Go.Proofs.Ytbhihbhjmmeibaa
open Go.RowKit Go.Shelf
open Qa (Ac AcIs AcPost)

/-- what stands in a law: all of it is new -/
structure LawSt (w : World) (n : Nat) (os : Nat → Ob) (F : Nat → Nat → Prop) (u : World) : Prop where
  sc : Scene n os F u
  only : Only NoneOf w u
  new : ∀ j, j < n → ∀ k, F j k → w.heap.size ≤ k
theorem LawSt.keep {w u u' : World} {n : Nat} {os : Nat → Ob} {F : Nat → Nat → Prop} (h : LawSt w n os F u) (ho : Only NoneOf u u') : LawSt w n os F u' := ⟨h.sc.keep ho, h.only.trans ho, h.new⟩
theorem LawSt.congr {w u : World} {n : Nat} {os os' : Nat → Ob} {F : Nat → Nat → Prop} (h : LawSt w n os F u) (he : ∀ i, i < n → os i = os' i) : LawSt w n os' F u := ⟨h.sc.congr he, h.only, h.new⟩
theorem LawSt.turn {w u u' : World} {n : Nat} {os os' : Nat → Ob} {F : Nat → Nat → Prop} {S : Nat → Prop} (h : LawSt w n os F u) (hs : Scene n os' F u') (ho : Only S u u') (hS : ∀ k, S k → ∃ j, j < n ∧ F j k) : LawSt w n os' F u' :=
  ⟨hs, h.only.step ho (fun k hk hh => by obtain ⟨j, hj, hf⟩ := hS k hh; have := h.new j hj k hf; omega), h.new⟩
theorem LawSt.grow {w u u' : World} {n : Nat} {os os' : Nat → Ob} {F : Nat → Nat → Prop} {F' : Nat → Prop} {j : Nat} (h : LawSt w n os F u) (hj : j < n) (hs : Scene n os' (setAt F j F') u') (ho : Only (F j) u u') (hF : ∀ k, F' k → F j k ∨ u.heap.size ≤ k) : LawSt w n os' (setAt F j F') u' :=
  ⟨hs, h.only.step ho (fun k hk hh => by have := h.new j hj k hh; omega), fun i hi k hk => by
    by_cases e : i = j
    · subst e
      rw [setAt_same] at hk
      rcases hF k hk with h1 | h1
      · exact h.new i hi k h1
      · have := h.only.size; omega
    · rw [setAt_ne _ _ e] at hk
      exact h.new i hi k hk⟩
theorem LawSt.more {w u u' : World} {n : Nat} {os os' : Nat → Ob} {F : Nat → Nat → Prop} {F' : Nat → Prop} (h : LawSt w n os F u) (hs : Scene (n + 1) os' (setAt F n F') u') (ho : Only NoneOf u u') (hF : ∀ k, F' k → u.heap.size ≤ k) : LawSt w (n + 1) os' (setAt F n F') u' :=
  ⟨hs, h.only.trans ho, fun i hi k hk => by
    by_cases e : i = n
    · subst e
      rw [setAt_same] at hk
      have := hF k hk
      have := h.only.size
      omega
    · rw [setAt_ne _ _ e] at hk
      exact h.new i (by omega) k hk⟩
theorem LawSt.start (w : World) (os : Nat → Ob) (F : Nat → Nat → Prop) : LawSt w 0 os F w := ⟨Scene.start _ _ _, Only.refl _ _, fun j hj => absurd hj (by omega)⟩
theorem LawSt.lt {w u : World} {n : Nat} {os : Nat → Ob} {F : Nat → Nat → Prop} (h : LawSt w n os F u) {j k : Nat} (hj : j < n) (hk : F j k) : k < u.heap.size := (h.sc j hj).lt k hk

/-- what came, of a list of versions -/
def fillR (xs : List KV) : List KV := xs.foldl (fun R x => afterR R x.1 x.2) []
theorem fillR_snoc (xs : List KV) (x : KV) : fillR (xs ++ [x]) = afterR (fillR xs) x.1 x.2 := by simp [fillR, List.foldl_append]
theorem fillR_take {xs : List KV} {i : Nat} {x : KV} (h : xs[i]? = some x) : fillR (xs.take (i + 1)) = afterR (fillR (xs.take i)) x.1 x.2 := by
  rw [List.take_add_one, h]
  exact fillR_snoc _ _

/-- two sources; and a transaction and an account -/
def os2 (sb s2 : Sr) : Nat → Ob
  | 0 => .sr sb
  | _ => .sr s2
def os4 (sb s2 : Sr) (x : Tx) (b : Nat) (a : Ac) : Nat → Ob
  | 0 => .sr sb
  | 1 => .sr s2
  | 2 => .tx x
  | _ => .ac b a
def srI (s st : Nat) (vs : List KV) (i : Nat) (asked : Int) : Sr := ⟨s, st, fillR (vs.take i), i, 0, asked⟩
def OwRel (w : World) (vs : List KV) (n sa ta sb tb : Nat) (v : Value) (wr : World) : Prop := ∃ (i : Nat) (F : Nat → Nat → Prop), v = .int .i64 i ∧ i ≤ n ∧ LawSt w 2 (os2 (srI sa ta vs i 0) (srI sb tb vs i 0)) F wr

theorem own_e0 (key : ByteArray) (hk : 1 ≤ key.size ∧ key.size ≤ 255) : getE false [4611686018427387904, 4611686018427387904] 0 key = 0 := by
  unfold getE
  rw [if_neg (by decide), if_neg (not_not_intro hk)]
  decide
theorem own_e1 (key : ByteArray) (hk : 1 ≤ key.size ∧ key.size ≤ 255) : getE false [4611686018427387904, 4611686018427387904] 1 key = 0 := by
  unfold getE
  rw [if_neg (by decide), if_neg (not_not_intro hk)]
  decide
def owTx (t p m : Nat) (ws : List We) : Tx := ⟨t, p, m, 1, [4611686018427387904, 4611686018427387904], ws, false⟩
theorem own_get0 (t p m : Nat) (ws : List We) (s : Sr) (hs : s.H = 0) (key : ByteArray) (hk : 1 ≤ key.size ∧ key.size ≤ 255) : getA (owTx t p m ws) s 0 key = (((found (verR s.R key) 4611686018427387904).getD [], (found (verR s.R key) 4611686018427387904).isSome, 0), 1) := by
  unfold getA
  have h2 : readY (owTx t p m ws) 0 = 4611686018427387904 := rfl
  have h4 : ¬ (0 : Int) = ((owTx t p m ws).place : Int) := by show ¬ (0 : Int) = ((1 : Nat) : Int); decide
  rw [show getE (owTx t p m ws).ended (owTx t p m ws).snap 0 key = 0 from own_e0 key hk, h2, if_neg (by decide), if_neg h4, hs, if_neg (by decide)]
theorem own_get1 (t p m : Nat) (e : We) (s : Sr) (key : ByteArray) (hk : 1 ≤ key.size ∧ key.size ≤ 255) (he : e.key = key.data.toList) : getA (owTx t p m (layW [] e)) s 1 key = ((e.bs, !e.dead, 0), 0) := by
  unfold getA
  have hl : look (owTx t p m (layW [] e)).ws key.data.toList = some e := by
    show look [e] key.data.toList = some e
    rw [look_cons, if_pos he]
  rw [show getE (owTx t p m (layW [] e)).ended (owTx t p m (layW [] e)).snap 1 key = 0 from own_e1 key hk, if_neg (by decide), if_pos (show (1 : Int) = ((owTx t p m (layW [] e)).place : Int) from rfl), hl]
def owAc (pend : Int) : Ac := ⟨1048576, 1, 0, pend, 1⟩
theorem own_wr (key : ByteArray) (hk : 1 ≤ key.size ∧ key.size ≤ 255) (nb : Nat) (hn : nb ≤ 4096) (now : Int) (h0 : 0 ≤ now) (h1 : now ≤ 4351) : wrC false 2 1 1 key nb (owAc 0) ((0 : Nat) : Int) now = 0 := by
  unfold wrC
  rw [if_neg (by decide), if_neg (not_not_intro hk), if_neg (by omega), if_neg (by decide)]
  unfold Ac.doCharge owAc
  rw [if_neg (by simp), if_neg (by omega), if_neg (by simp; omega)]

theorem ints_two (w : World) (x y : Int) : IntsAt (w.alloc (.cells #[.int .i64 x, .int .i64 y] 3)) (some ⟨w.heap.size, 0, none⟩) [x, y] := fun i c hc => by
  have hb := Blk.new w 3 #[.int .i64 x, .int .i64 y]
  match i, hc with
  | 0, hc => simp at hc; subst hc; exact ⟨_, 0, rfl, by simp, hb.cellv 0 rfl⟩
  | 1, hc => simp at hc; subst hc; exact ⟨_, 0, rfl, by simp, hb.cellv 1 rfl⟩
  | i + 2, hc => simp at hc
/-- bytes that nothing turns that is told here -/
theorem LawSt.bytes {w u u' : World} {n : Nat} {os : Nat → Ob} {F : Nat → Nat → Prop} {S : Nat → Prop} (h : LawSt w n os F u) (hS : ∀ k, S k → ∃ j, j < n ∧ F j k) {v : World} {A : Option Addr} {bs : List UInt8} (hb : BytesAt v A bs) (hlo : bs ≠ [] → ∀ g off, A = some ⟨g, off, none⟩ → u.heap.size ≤ g) (ho : Only S v u') : BytesAt u' A bs :=
  hb.turn ho fun hne g off hA hs => by
    obtain ⟨j, hj, hf⟩ := hS g hs
    have := h.lt hj hf
    have := hlo hne g off hA
    omega

set_option maxRecDepth 100000 in
set_option maxHeartbeats 16000000 in
theorem own_walk (A : Option Addr) (cap : Nat) (vs : List KV) (key : ByteArray) (hkl : key.size ≤ maxLen) (Av : Option Addr) (cv : Nat) (bs : List UInt8) (dead : Bool) (w : World) (hV : VersAt w A vs) (hfew : vs.length ≤ 2513169434843) (hB : BytesAt w Av bs) :
    Calls Try.prog 4 #[.slice A vs.length cap, .string key, .slice Av bs.length cv, .bool dead] w (AnsN (.bool true) w) := by
  have HV := Lib.hid hV
  have HB := Lib.hid hB
  obtain ⟨n, hn⟩ : ∃ n, vs.length = n := ⟨_, rfl⟩
  have HN := Lib.hid hn
  rw [hn] at hfew ⊢
  obtain ⟨nb, hnb⟩ : ∃ nb, bs.length = nb := ⟨_, rfl⟩
  have HNB := Lib.hid hnb
  rw [hnb]
  obtain ⟨nk, hnk⟩ : ∃ nk, key.size = nk := ⟨_, rfl⟩
  have HNK := Lib.hid hnk
  have HKL := Lib.hid hkl
  clear hV hB hn hnb hkl
  have HFX := fun u => Lib.hid (fixedTx_is u)
  go_enter Try.func4, Try.ntmps4
  go_wp2_with fail
  refine (HFX _).out.mono ?_; rintro e w1 ⟨rfl, ho1⟩
  have HO1 := Lib.hid ho1
  clear ho1
  by_cases hb : 1 ≤ nk ∧ nk ≤ 255 ∧ nb ≤ 4096
  · obtain ⟨q1, q2, q3⟩ := hb
    have r1 : ¬ nk < 1 := by omega
    have r2 : ¬ 255 < nk := by omega
    have r3 : ¬ 4096 < nb := by omega
    go_wp2_with fail
    refine (newR w1 (fun k => ∃ j, j < 0 ∧ (fun _ _ => False : Nat → Nat → Prop) j k) (fun k ⟨j, hj, _⟩ => absurd hj (by omega))).mono ?_
    rintro e w2 ⟨rfl, T, hst, ho2, hT⟩
    obtain ⟨F0, hs0, hf0⟩ := (Scene.start (os2 (srI 0 0 vs 0 0) (srI 0 0 vs 0 0)) (fun _ _ => False) w1).addSr hst ho2 hT 0
    have hl0 := (LawSt.start w1 (os2 (srI 0 0 vs 0 0) (srI 0 0 vs 0 0)) (fun _ _ => False)).more hs0 (ho2.alloc _) hf0
    obtain ⟨sa, esa⟩ : ∃ s, w2.heap.size = s := ⟨_, rfl⟩
    obtain ⟨ta, est0⟩ : ∃ s, w1.heap.size + 1 = s := ⟨_, rfl⟩
    rw [esa, est0] at hl0
    obtain ⟨w3, hw3⟩ : ∃ w3, w2.alloc (.cells #[.pointer (some ⟨ta, 0, none⟩), .int .i64 0, .int .i64 0] 29) = w3 := ⟨_, rfl⟩
    rw [hw3] at hl0
    have HW3 := Lib.hid hw3
    have HL0 := Lib.hid hl0
    clear hst ho2 hT hs0 hf0 hl0 hw3
    go_wp2_with fail
    rw [HW3.out]
    refine (newR w3 (fun k => ∃ j, j < 1 ∧ (setAt (fun _ _ => False : Nat → Nat → Prop) 0 F0) j k) (fun k ⟨j, hj, hk⟩ => HL0.out.lt hj hk)).mono ?_
    rintro e w4 ⟨rfl, T1, hst, ho2, hT⟩
    obtain ⟨F1, hs0, hf0⟩ := HL0.out.sc.addSr hst ho2 hT 0
    have hl1 := HL0.out.more hs0 (ho2.alloc _) hf0
    obtain ⟨sb, es1⟩ : ∃ s, w4.heap.size = s := ⟨_, rfl⟩
    obtain ⟨tb, est1⟩ : ∃ s, w3.heap.size + 1 = s := ⟨_, rfl⟩
    rw [es1, est1] at hl1
    obtain ⟨w5, hw5⟩ : ∃ w5, w4.alloc (.cells #[.pointer (some ⟨tb, 0, none⟩), .int .i64 0, .int .i64 0] 29) = w5 := ⟨_, rfl⟩
    rw [hw5] at hl1
    have HW5 := Lib.hid hw5
    have HL1 := Lib.hid (hl1.congr (os' := os2 (srI sa ta vs 0 0) (srI sb tb vs 0 0)) (fun i hi => match i, hi with | 0, _ => rfl | 1, _ => rfl | n + 2, h => absurd h (by omega)))
    clear hst ho2 hT hs0 hf0 hl1 hw5 HL0
    go_wp2_with fail
    rw [HW5.out]
    go_loopw [47] (fun v wr => OwRel w1 vs n sa ta sb tb v wr) (fun v _ => n - (intOf v).toNat)
    case atStart => exact ⟨0, _, rfl, by omega, HL1.out⟩
    case round =>
      obtain ⟨i, F, rfl, hi, hl⟩ := hrel
      have HL := Lib.hid hl
      clear hl
      by_cases hlt : i < n
      · have hx : vs[i]? = some (vs[i]'(by rw [HN.out]; exact hlt)) := List.getElem?_eq_getElem _
        generalize vs[i]'(by rw [HN.out]; exact hlt) = x at hx
        obtain ⟨g, off, Ab, cb, rfl, hg, d0, d1, d2, d3, hby, hks⟩ := (HV.out.keep (HO1.out.trans HL.out.only)) i x hx
        have HTK := Lib.hid (fillR_take hx)
        obtain ⟨xk, st, xb, xd⟩ := x
        simp only at d0 d1 d2 d3 hby hks
        obtain ⟨nn, hnn⟩ : ∃ nn, xb.length = nn := ⟨_, rfl⟩
        rw [hnn] at d2
        have HNN := Lib.hid hnn
        obtain ⟨hv0, hv1, hv2, hv3, hvV⟩ : True ∧ True ∧ True ∧ True ∧ True := ⟨trivial, trivial, trivial, trivial, trivial⟩
        have HBY0 := Lib.hid (show BytesAt w1 Ab xb from by
          obtain ⟨g2, off2, Ab2, cb2, hA2, hg2, e0, e1, e2, e3, hby2, _⟩ := (HV.out.keep HO1.out) i _ hx
          injection hA2 with hA2
          injection hA2 with h1 h2 _
          subst h1; subst h2
          have h3 := (HL.out.only.cell (p := ⟨g, off + i * 4 + 2, none⟩) hg2 (fun h => h)).trans e2
          rw [d2] at h3
          injection h3 with h3
          injection h3 with h4 _ _
          rw [h4]
          exact hby2)
        have hB12 := Blk.new wr 31 (verC xk st (.slice Ab nn cb) xd)
        have hwr := HL.out.only.size
        obtain ⟨b12, eb12⟩ : ∃ b, wr.heap.size = b := ⟨_, rfl⟩
        obtain ⟨W9, hW9⟩ : ∃ W9, wr.alloc (.cells (verC xk st (.slice Ab nn cb) xd) 31) = W9 := ⟨_, rfl⟩
        rw [hW9, eb12] at hB12
        have HL9 := Lib.hid (HL.out.keep (show Only NoneOf wr W9 by rw [← hW9]; exact (Only.refl _ _).alloc _))
        have HB12 := Lib.hid hB12
        have HW9 := Lib.hid hW9
        have HB9 := Lib.hid (show ∀ j, j < 2 → ¬ F j b12 from fun j hj hf => by have := HL.out.lt hj hf; omega)
        obtain ⟨T0, hsr0, hF0⟩ := HL9.out.sc.sr (i := 0) (by decide) rfl
        have HC0 := Lib.hid (show Blk W9 sa 29 #[.pointer (some ⟨ta, 0, none⟩), .int .i64 0, .int .i64 0] from hsr0.blk)
        clear hby hx hB12 hW9 hnn hsr0 hF0 hv0 hv1 hv2 hv3 hvV
        go_upto_region 9 with (fail)
        rw [HW9.out]
        refine wp_region_head 5 156 (ConstT fun i => match i with | 0 => .pointer (some ⟨sa, 0, none⟩) | 1 => .pointer (some ⟨sa, 0, none⟩) | 2 => .pointer (some ⟨sa, 0, none⟩) | 3 => .pointer (some ⟨ta, 0, none⟩) | _ => .agg (verC xk st (.slice Ab nn cb) xd)) (fun _ => false) rfl (by kernel_rfl) (by kernel_rfl) (fun _ _ _ _ h _ => h) (fun _ _ _ h => by cases h) ?_ ?_
        · intro i o hi ho a u hu hs ht
          have e9 : a.tmps.getD 9 undef = .pointer (some ⟨sa, 0, none⟩) := hs 9 (of_decide_eq_true (by kernel_rfl))
          have e12 : a.tmps.getD 12 undef = .pointer (some ⟨b12, 0, none⟩) := hs 12 (of_decide_eq_true (by kernel_rfl))
          have FB := HC0.out.only hu (fun h => h)
          have c0 := FB.cellv 0 rfl
          have : i = 0 ∨ i = 1 ∨ i = 2 ∨ i = 3 ∨ i = 4 := by omega
          rcases this with rfl | rfl | rfl | rfl | rfl
          · obtain rfl := Option.some.inj (ho : some _ = some o)
            exact left_value (.pointer (some ⟨sa, 0, none⟩)) (by simp [go_sem, e9]) rfl rfl
          · obtain rfl := Option.some.inj (ho : some _ = some o)
            have s0 : a.tmps.getD 51 undef = .pointer (some ⟨sa, 0, none⟩) := ht 0 (by omega) (by kernel_rfl)
            exact left_value (.pointer (some ⟨sa, 0, none⟩)) (by simp [go_sem, s0]) rfl rfl
          · obtain rfl := Option.some.inj (ho : some _ = some o)
            have s1 : a.tmps.getD 52 undef = .pointer (some ⟨sa, 0, none⟩) := ht 1 (by omega) (by kernel_rfl)
            exact left_value (.pointer (some ⟨sa, 0, none⟩)) (by simp [go_sem, s1]) rfl rfl
          · obtain rfl := Option.some.inj (ho : some _ = some o)
            have s2 : a.tmps.getD 53 undef = .pointer (some ⟨sa, 0, none⟩) := ht 2 (by omega) (by kernel_rfl)
            exact left_value (.pointer (some ⟨ta, 0, none⟩)) (by simp [go_sem, s2, c0]) rfl rfl
          · obtain rfl := Option.some.inj (ho : some _ = some o)
            exact left_load 31 (.tmp 12) b12 31 _ _ rfl e12 (HB12.out.only hu (fun h => h)) Try.underlying31 rfl infoV rfl rfl
        · intro V' u hu hV' _
          have v0 : V' 0 = .pointer (some ⟨sa, 0, none⟩) := hV' 0 (by omega)
          have v1 : V' 1 = .pointer (some ⟨sa, 0, none⟩) := hV' 1 (by omega)
          have v2 : V' 2 = .pointer (some ⟨sa, 0, none⟩) := hV' 2 (by omega)
          have v3 : V' 3 = .pointer (some ⟨ta, 0, none⟩) := hV' 3 (by omega)
          have v4 : V' 4 = .agg (verC xk st (.slice Ab nn cb) xd) := hV' 4 (by omega)
          change wpList _ _ _ _ (Act.put (Act.put (Act.put (Act.put (Act.put _ (some 51) (V' 0)) (some 52) (V' 1)) (some 53) (V' 2)) (some 54) (V' 3)) (some 55) (V' 4)) _
          rw [v0, v1, v2, v3, v4]
          simp only [Act.put, List.setIfInBounds_toArray, List.set_cons_zero, List.set_cons_succ]
          simp only [List.drop_succ_cons, List.drop_zero]
          clear hV' v0 v1 v2 v3 v4
          have HLu := Lib.hid (HL9.out.keep hu)
          have HB12u := Lib.hid (HB12.out.only hu (fun h => h))
          have HAP := Lib.hid (sc_apply HLu.out.sc (j := 0) (by decide) rfl (show i < NMAX by unfold NMAX; omega) xk st Ab nn cb xd xb HNN.out (HBY0.out.keep HLu.out.only))
          clear hu
          go_wp2_with fail
          refine HAP.out.mono ?_; rintro e w7 ⟨rfl, F', hs7, ho7, hF7⟩
          have HL7 := Lib.hid ((HLu.out.grow (by decide) hs7 ho7 hF7).congr (os' := os2 (srI sa ta vs (i + 1) 0) (srI sb tb vs i 0)) (fun j hj => match j, hj with | 0, _ => by show Ob.sr _ = Ob.sr _; rw [srI, srI, HTK.out] | 1, _ => rfl | n + 2, h => absurd h (by omega)))
          have HB12v := Lib.hid (HB12u.out.only ho7 (HB9.out 0 (by decide)))
          obtain ⟨T1', hsr1, hF1'⟩ := HL7.out.sc.sr (i := 1) (by decide) rfl
          have HC1 := Lib.hid (show Blk w7 sb 29 #[.pointer (some ⟨tb, 0, none⟩), .int .i64 0, .int .i64 0] from hsr1.blk)
          clear hs7 ho7 hF7 hsr1 hF1' HAP
          go_upto_region 10 with (fail)
          refine wp_region_head 5 156 (ConstT fun i => match i with | 0 => .pointer (some ⟨sb, 0, none⟩) | 1 => .pointer (some ⟨sb, 0, none⟩) | 2 => .pointer (some ⟨sb, 0, none⟩) | 3 => .pointer (some ⟨tb, 0, none⟩) | _ => .agg (verC xk st (.slice Ab nn cb) xd)) (fun _ => false) rfl (by kernel_rfl) (by kernel_rfl) (fun _ _ _ _ h _ => h) (fun _ _ _ h => by cases h) ?_ ?_
          · intro i o hi ho a u hu hs ht
            have e10 : a.tmps.getD 10 undef = .pointer (some ⟨sb, 0, none⟩) := hs 10 (of_decide_eq_true (by kernel_rfl))
            have e12 : a.tmps.getD 12 undef = .pointer (some ⟨b12, 0, none⟩) := hs 12 (of_decide_eq_true (by kernel_rfl))
            have FB := HC1.out.only hu (fun h => h)
            have c0 := FB.cellv 0 rfl
            have : i = 0 ∨ i = 1 ∨ i = 2 ∨ i = 3 ∨ i = 4 := by omega
            rcases this with rfl | rfl | rfl | rfl | rfl
            · obtain rfl := Option.some.inj (ho : some _ = some o)
              exact left_value (.pointer (some ⟨sb, 0, none⟩)) (by simp [go_sem, e10]) rfl rfl
            · obtain rfl := Option.some.inj (ho : some _ = some o)
              have s0 : a.tmps.getD 57 undef = .pointer (some ⟨sb, 0, none⟩) := ht 0 (by omega) (by kernel_rfl)
              exact left_value (.pointer (some ⟨sb, 0, none⟩)) (by simp [go_sem, s0]) rfl rfl
            · obtain rfl := Option.some.inj (ho : some _ = some o)
              have s1 : a.tmps.getD 58 undef = .pointer (some ⟨sb, 0, none⟩) := ht 1 (by omega) (by kernel_rfl)
              exact left_value (.pointer (some ⟨sb, 0, none⟩)) (by simp [go_sem, s1]) rfl rfl
            · obtain rfl := Option.some.inj (ho : some _ = some o)
              have s2 : a.tmps.getD 59 undef = .pointer (some ⟨sb, 0, none⟩) := ht 2 (by omega) (by kernel_rfl)
              exact left_value (.pointer (some ⟨tb, 0, none⟩)) (by simp [go_sem, s2, c0]) rfl rfl
            · obtain rfl := Option.some.inj (ho : some _ = some o)
              exact left_load 31 (.tmp 12) b12 31 _ _ rfl e12 (HB12v.out.only hu (fun h => h)) Try.underlying31 rfl infoV rfl rfl
          · intro V' u2 hu hV' _
            have v0 : V' 0 = .pointer (some ⟨sb, 0, none⟩) := hV' 0 (by omega)
            have v1 : V' 1 = .pointer (some ⟨sb, 0, none⟩) := hV' 1 (by omega)
            have v2 : V' 2 = .pointer (some ⟨sb, 0, none⟩) := hV' 2 (by omega)
            have v3 : V' 3 = .pointer (some ⟨tb, 0, none⟩) := hV' 3 (by omega)
            have v4 : V' 4 = .agg (verC xk st (.slice Ab nn cb) xd) := hV' 4 (by omega)
            change wpList _ _ _ _ (Act.put (Act.put (Act.put (Act.put (Act.put _ (some 57) (V' 0)) (some 58) (V' 1)) (some 59) (V' 2)) (some 60) (V' 3)) (some 61) (V' 4)) _
            rw [v0, v1, v2, v3, v4]
            simp only [Act.put, List.setIfInBounds_toArray, List.set_cons_zero, List.set_cons_succ]
            simp only [List.drop_succ_cons, List.drop_zero]
            clear hV' v0 v1 v2 v3 v4
            have HLx := Lib.hid (HL7.out.keep hu)
            have HAP := Lib.hid (sc_apply HLx.out.sc (j := 1) (by decide) rfl (show i < NMAX by unfold NMAX; omega) xk st Ab nn cb xd xb HNN.out (HBY0.out.keep HLx.out.only))
            clear hu
            go_wp2_with fail
            refine HAP.out.mono ?_; rintro e w8 ⟨rfl, F2, hs8, ho8, hF8⟩
            have HL8 := Lib.hid ((HLx.out.grow (by decide) hs8 ho8 hF8).congr (os' := os2 (srI sa ta vs (i + 1) 0) (srI sb tb vs (i + 1) 0)) (fun j hj => match j, hj with | 0, _ => rfl | 1, _ => by show Ob.sr _ = Ob.sr _; rw [srI, srI, HTK.out] | n + 2, h => absurd h (by omega)))
            clear hs8 ho8 hF8 HAP
            go_wp2_with fail
            exact ⟨⟨i + 1, _, by rw [show ((i + 1 : Nat) : Int) = (i : Int) + 1 by omega], by omega, HL8.out⟩, by simp [intOf]; omega⟩
      · obtain rfl : i = n := by omega
        have hall : vs.take i = vs := by rw [← HN.out, List.take_length]
        have HKB := Lib.hid (show 1 ≤ key.size ∧ key.size ≤ 255 from ⟨by have := HNK.out; omega, by have := HNK.out; omega⟩)
        have hl2 : LawSt w1 2 (os2 ⟨sa, ta, fillR vs, i, 0, 0⟩ ⟨sb, tb, fillR vs, i, 0, 0⟩) F wr := HL.out.congr (fun j hj => match j, hj with | 0, _ => by show Ob.sr _ = Ob.sr _; rw [srI, hall] | 1, _ => by show Ob.sr _ = Ob.sr _; rw [srI, hall] | n + 2, h => absurd h (by omega))
        have hl2' := hl2.keep ((Only.refl NoneOf wr).alloc (.cells #[.int .i64 4611686018427387904, .int .i64 4611686018427387904] 3))
        have HTN := Lib.hid (txNew_ok (wr.alloc (.cells #[.int .i64 4611686018427387904, .int .i64 4611686018427387904] 3)) (fun k => ∃ j, j < 2 ∧ F j k) (fun k ⟨j, hj, hk⟩ => hl2'.lt hj hk) 1 _ 2 [4611686018427387904, 4611686018427387904] (ints_two wr _ _) 4611686018427387904 rfl (by decide) (by decide))
        have HL2 := Lib.hid hl2'
        clear hl2 hl2' HL hall
        go_wp2_with fail
        refine HTN.out.mono ?_
        rintro e w3 ⟨t, p, m, rfl, ht, ho3, ht1, ht2, ht3⟩
        obtain ⟨F2, hs3, hf2⟩ := HL2.out.sc.addTx ht ho3 ht1 ht2 ht3
        have HL3 := Lib.hid (HL2.out.more hs3 ho3 hf2)
        clear ht ho3 ht1 ht2 ht3 hs3 hf2 HL2 HTN
        go_wp2_with fail
        refine (Qa.new_ok 1048576 1 0 0 0 w3 (by decide) (by decide) (by decide) (by decide)).mono ?_
        rintro e w4 ⟨b, rfl, hb4, ha, ho4⟩
        obtain ⟨F3, hs4, hf3⟩ := HL3.out.sc.addAc ha (by constructor <;> decide) ho4 hb4
        have HL4 := Lib.hid (HL3.out.more hs4 ho4 hf3)
        have HBB := Lib.hid (Nat.le_trans HL3.out.only.size hb4)
        clear ha ho4 hb4 hs4 hf3 HL3
        go_wp2_with fail
        refine (sc_begin HL4.out.sc (j := 3) (by decide) rfl).mono ?_
        rintro e w5 ⟨he, hs5, ho5⟩
        rw [show (Ac.doBegin ⟨1048576, 1, 0, 0, 0⟩).2 = 0 from rfl] at he
        subst he
        obtain ⟨FF, hFF⟩ : ∃ FF, setAt (setAt F 2 F2) 3 F3 = FF := ⟨_, rfl⟩
        have HL5 := Lib.hid (show LawSt w1 4 (os4 ⟨sa, ta, fillR vs, i, 0, 0⟩ ⟨sb, tb, fillR vs, i, 0, 0⟩ (owTx t p m []) b (owAc 0)) FF w5 from by
          rw [← hFF]
          exact (HL4.out.turn hs5 ho5 (fun k hk => ⟨3, by decide, hk⟩)).congr (fun j hj => match j, hj with | 0, _ => rfl | 1, _ => rfl | 2, _ => rfl | 3, _ => rfl | n + 4, h => absurd h (by omega)))
        have HG := sc_get HL5.out.sc (i := 2) (j := 1) (by decide) (by decide) (by decide) rfl rfl (show (0 : Int) < 4611686018427387904 by decide) 0 key HKL.out
        rw [show getA (owTx t p m []) ⟨sb, tb, fillR vs, i, 0, 0⟩ 0 key = _ from own_get0 t p m [] _ rfl key HKB.out] at HG
        obtain ⟨f, hf⟩ : ∃ f, found (verR (fillR vs) key) 4611686018427387904 = f := ⟨_, rfl⟩
        have HF := Lib.hid hf
        simp only [hf] at HG
        replace HG := Lib.hid HG
        clear hs5 ho5 HL4 hFF hf
        go_wp2_with fail
        refine HG.out.mono ?_
        rintro e w6 ⟨⟨v6, rfl, hr6⟩, hs6, ho6⟩
        obtain ⟨A6, c6, rfl, hb6⟩ := hr6.at
        have hlo6 : f.getD [] ≠ [] → ∀ g off, A6 = some ⟨g, off, none⟩ → w5.heap.size ≤ g := fun _ g off hA => (ownsRow_lt hr6 (g := g) (by rw [hA]; rfl)).1
        have HL6 := Lib.hid (show LawSt w1 4 (os4 ⟨sa, ta, fillR vs, i, 0, 0⟩ ⟨sb, tb, fillR vs, i, 0, 1⟩ (owTx t p m []) b (owAc 0)) FF w6 from
          (HL5.out.turn hs6 ho6 (fun k hk => ⟨1, by decide, ((HL5.out.sc.sr (i := 1) (by decide) rfl).choose_spec.2 k).2 (.inl hk)⟩)).congr (fun j hj => match j, hj with | 0, _ => rfl | 1, _ => rfl | 2, _ => rfl | 3, _ => rfl | n + 4, h => absurd h (by omega)))
        have HB6 := Lib.hid hb6
        have HLO6 := Lib.hid hlo6
        obtain ⟨n6, hn6⟩ : ∃ n6, (f.getD []).length = n6 := ⟨_, rfl⟩
        have HN6 := Lib.hid hn6
        rw [hn6]
        clear HG hr6 hs6 ho6 hb6 hlo6 hn6
        have HWR : ∀ (nb' : Nat) (now : Int), nb' ≤ 4096 → 0 ≤ now → now ≤ 4351 → Hid (wrC false 2 1 1 key nb' (owAc 0) ((0 : Nat) : Int) now = 0) := fun nb' now h1 h2 h3 => Lib.hid (own_wr key HKB.out nb' h1 now h2 h3)
        have hkz : key.size = nk := HNK.out
        cases dead with
        | true =>
          have hc : delC (owTx t p m []) (owAc 0) 1 key = 0 := (HWR 0 key.size (by omega) (by omega) (by omega)).out
          have HD := sc_del HL6.out.sc (i := 2) (j := 3) (by decide) (by decide) (by decide) rfl rfl (show (0 : Nat) ≤ 1048576 by decide) 1 key HKL.out
          rw [hc] at HD
          replace HD := Lib.hid HD
          clear hc HWR hkz
          go_wp2_with fail
          refine HD.out.mono ?_
          rintro e w7 ⟨rfl, hs7, ho7⟩
          have hS7 : ∀ k, (FF 2 k ∨ FF 3 k) → ∃ j, j < 4 ∧ FF j k := fun k hk => hk.elim (fun h => ⟨2, by decide, h⟩) (fun h => ⟨3, by decide, h⟩)
          have HL7 := Lib.hid (show LawSt w1 4 (os4 ⟨sa, ta, fillR vs, i, 0, 0⟩ ⟨sb, tb, fillR vs, i, 0, 1⟩ (owTx t p m (layW [] ⟨key.data.toList, [], true⟩)) b _) FF w7 from
            (HL6.out.turn hs7 ho7 hS7).congr (fun j hj => match j, hj with | 0, _ => rfl | 1, _ => rfl | 2, _ => rfl | 3, _ => rfl | n + 4, h => absurd h (by omega)))
          have HB7 := Lib.hid (HL5.out.bytes hS7 HB6.out HLO6.out ho7)
          have HG := sc_get HL7.out.sc (i := 2) (j := 0) (by decide) (by decide) (by decide) rfl rfl (show (0 : Int) < 4611686018427387904 by decide) 1 key HKL.out
          rw [own_get1 t p m ⟨key.data.toList, [], true⟩ _ key HKB.out rfl] at HG
          replace HG := Lib.hid HG
          clear hs7 ho7 hS7 HD
          go_wp2_with fail
          refine HG.out.mono ?_
          rintro e w8 ⟨⟨v8, rfl, hr8⟩, hs8, ho8⟩
          obtain ⟨A8, c8, rfl, _⟩ := hr8.at
          have hS8 : ∀ k, k = sa → ∃ j, j < 4 ∧ FF j k := fun k hk => ⟨0, by decide, ((HL7.out.sc.sr (i := 0) (by decide) rfl).choose_spec.2 k).2 (.inl hk)⟩
          have HL8 := Lib.hid (show LawSt w1 4 (os4 ⟨sa, ta, fillR vs, i, 0, 0⟩ ⟨sb, tb, fillR vs, i, 0, 1⟩ (owTx t p m (layW [] ⟨key.data.toList, [], true⟩)) b _) FF w8 from
            (HL7.out.turn hs8 ho8 hS8).congr (fun j hj => match j, hj with | 0, _ => rfl | 1, _ => rfl | 2, _ => rfl | 3, _ => rfl | n + 4, h => absurd h (by omega)))
          have HB8 := Lib.hid (HL5.out.bytes hS8 HB7.out HLO6.out ho8)
          have HG3 := sc_get HL8.out.sc (i := 2) (j := 1) (by decide) (by decide) (by decide) rfl rfl (show (1 : Int) < 4611686018427387904 by decide) 0 key HKL.out
          rw [show getA (owTx t p m (layW [] ⟨key.data.toList, [], true⟩)) ⟨sb, tb, fillR vs, i, 0, 1⟩ 0 key = _ from own_get0 t p m _ _ rfl key HKB.out] at HG3
          simp only [HF.out] at HG3
          replace HG3 := Lib.hid HG3
          clear hr8 hs8 ho8 hS8 HG
          go_wp2_with fail
          refine HG3.out.mono ?_
          rintro e wa ⟨⟨va, rfl, hra⟩, hsa, hoa⟩
          obtain ⟨Aa, ca, rfl, hba⟩ := hra.at
          have hSa : ∀ k, k = sb → ∃ j, j < 4 ∧ FF j k := fun k hk => ⟨1, by decide, ((HL8.out.sc.sr (i := 1) (by decide) rfl).choose_spec.2 k).2 (.inl hk)⟩
          have HLa := Lib.hid (HL8.out.turn hsa hoa hSa)
          have HBa := HL5.out.bytes hSa HB8.out HLO6.out hoa
          have HEQ2 := Lib.hid (equal_is wa Aa A6 n6 n6 ca c6 (f.getD []) (f.getD []) HN6.out HN6.out hba HBa (by
            have h1 := HN6.out
            have h2 := HF.out
            cases f with
            | none =>
              have h5 : 0 = n6 := h1
              omega
            | some xs =>
              obtain ⟨z, hz, rfl⟩ := found_mem h2
              obtain ⟨T', hsr, _⟩ := HL8.out.sc.sr (i := 1) (by decide) rfl
              have h4 : z.bs.length ≤ 4096 := hsr.sto.good.bs _ (verR_mem.1 hz)
              have h5 : z.bs.length = n6 := h1
              omega))
          rw [decide_eq_true rfl] at HEQ2
          have en6 : (f.getD []).length = n6 := HN6.out
          clear hra hsa hoa hSa hba HBa HG3
          simp only [en6]
          go_wp2_with fail
          refine HEQ2.out.mono ?_
          rintro e wb ⟨rfl, mb, rfl⟩
          go_wp2_with fail
          go_ret
          exact ⟨rfl, (HO1.out.trans HLa.out.only).drewN _⟩
        | false =>
          have hc : putC (owTx t p m []) (owAc 0) 1 key nb = 0 := (HWR nb ((key.size : Int) + nb) (by omega) (by omega) (by omega)).out
          have HD := sc_put HL6.out.sc (i := 2) (j := 3) (by decide) (by decide) (by decide) rfl rfl (show (0 : Nat) ≤ 1048576 by decide) 1 key HKL.out Av nb cv bs HNB.out (HB.out.keep (HO1.out.trans HL6.out.only)) (fun hne g off hA e => by
            have h1 := (HB.out.keep HO1.out).lt hne hA
            have := HBB.out
            omega) (by omega) (by omega)
          rw [hc] at HD
          replace HD := Lib.hid HD
          clear hc HWR hkz
          go_wp2_with fail
          refine HD.out.mono ?_
          rintro e w7 ⟨rfl, hs7, ho7⟩
          have hS7 : ∀ k, (FF 2 k ∨ FF 3 k) → ∃ j, j < 4 ∧ FF j k := fun k hk => hk.elim (fun h => ⟨2, by decide, h⟩) (fun h => ⟨3, by decide, h⟩)
          have HL7 := Lib.hid (show LawSt w1 4 (os4 ⟨sa, ta, fillR vs, i, 0, 0⟩ ⟨sb, tb, fillR vs, i, 0, 1⟩ (owTx t p m (layW [] ⟨key.data.toList, bs, false⟩)) b _) FF w7 from
            (HL6.out.turn hs7 ho7 hS7).congr (fun j hj => match j, hj with | 0, _ => rfl | 1, _ => rfl | 2, _ => rfl | 3, _ => rfl | n + 4, h => absurd h (by omega)))
          have HB7 := Lib.hid (HL5.out.bytes hS7 HB6.out HLO6.out ho7)
          have HG := sc_get HL7.out.sc (i := 2) (j := 0) (by decide) (by decide) (by decide) rfl rfl (show (0 : Int) < 4611686018427387904 by decide) 1 key HKL.out
          rw [own_get1 t p m ⟨key.data.toList, bs, false⟩ _ key HKB.out rfl] at HG
          replace HG := Lib.hid HG
          clear hs7 ho7 hS7 HD
          go_wp2_with fail
          refine HG.out.mono ?_
          rintro e w8 ⟨⟨v8, rfl, hr8⟩, hs8, ho8⟩
          obtain ⟨A8, c8, rfl, hb8⟩ := hr8.at
          have hS8 : ∀ k, k = sa → ∃ j, j < 4 ∧ FF j k := fun k hk => ⟨0, by decide, ((HL7.out.sc.sr (i := 0) (by decide) rfl).choose_spec.2 k).2 (.inl hk)⟩
          have HL8' := Lib.hid (show LawSt w1 4 (os4 ⟨sa, ta, fillR vs, i, 0, 0⟩ ⟨sb, tb, fillR vs, i, 0, 1⟩ (owTx t p m (layW [] ⟨key.data.toList, bs, false⟩)) b _) FF w8 from
            (HL7.out.turn hs8 ho8 hS8).congr (fun j hj => match j, hj with | 0, _ => rfl | 1, _ => rfl | 2, _ => rfl | 3, _ => rfl | n + 4, h => absurd h (by omega)))
          have HB8' := Lib.hid (HL5.out.bytes hS8 HB7.out HLO6.out ho8)
          have HEQ := Lib.hid (equal_is w8 A8 Av nb nb c8 cv bs bs HNB.out HNB.out hb8 (HB.out.keep (HO1.out.trans HL8'.out.only)) (by omega))
          rw [decide_eq_true rfl] at HEQ
          have ebn : bs.length = nb := HNB.out
          clear hr8 hs8 ho8 hS8 HG hb8
          simp only [ebn]
          go_wp2_with fail
          refine HEQ.out.mono ?_
          rintro e w9 ⟨rfl, mm, rfl⟩
          have HL8 := Lib.hid (HL8'.out.keep ((Only.refl NoneOf w8).drewN mm))
          have HB8 := Lib.hid (HB8'.out.keep ((Only.refl NoneOf w8).drewN mm))
          have HG3 := sc_get HL8.out.sc (i := 2) (j := 1) (by decide) (by decide) (by decide) rfl rfl (show (1 : Int) < 4611686018427387904 by decide) 0 key HKL.out
          rw [show getA (owTx t p m (layW [] ⟨key.data.toList, bs, false⟩)) ⟨sb, tb, fillR vs, i, 0, 1⟩ 0 key = _ from own_get0 t p m _ _ rfl key HKB.out] at HG3
          simp only [HF.out] at HG3
          replace HG3 := Lib.hid HG3
          clear HEQ ebn
          go_wp2_with fail
          refine HG3.out.mono ?_
          rintro e wa ⟨⟨va, rfl, hra⟩, hsa, hoa⟩
          obtain ⟨Aa, ca, rfl, hba⟩ := hra.at
          have hSa : ∀ k, k = sb → ∃ j, j < 4 ∧ FF j k := fun k hk => ⟨1, by decide, ((HL8.out.sc.sr (i := 1) (by decide) rfl).choose_spec.2 k).2 (.inl hk)⟩
          have HLa := Lib.hid (HL8.out.turn hsa hoa hSa)
          have HBa := HL5.out.bytes hSa HB8.out HLO6.out hoa
          have HEQ2 := Lib.hid (equal_is wa Aa A6 n6 n6 ca c6 (f.getD []) (f.getD []) HN6.out HN6.out hba HBa (by
            have h1 := HN6.out
            have h2 := HF.out
            cases f with
            | none =>
              have h5 : 0 = n6 := h1
              omega
            | some xs =>
              obtain ⟨z, hz, rfl⟩ := found_mem h2
              obtain ⟨T', hsr, _⟩ := HL8.out.sc.sr (i := 1) (by decide) rfl
              have h4 : z.bs.length ≤ 4096 := hsr.sto.good.bs _ (verR_mem.1 hz)
              have h5 : z.bs.length = n6 := h1
              omega))
          rw [decide_eq_true rfl] at HEQ2
          have en6 : (f.getD []).length = n6 := HN6.out
          clear hra hsa hoa hSa hba HBa HG3
          simp only [en6]
          go_wp2_with fail
          refine HEQ2.out.mono ?_
          rintro e wb ⟨rfl, mb, rfl⟩
          go_wp2_with fail
          go_ret
          exact ⟨rfl, (HO1.out.trans HLa.out.only).drewN _⟩
  · by_cases h1 : nk < 1
    · go_wp2_with fail
      go_ret
      exact ⟨rfl, HO1.out⟩
    · by_cases h2 : 255 < nk
      · go_wp2_with fail
        go_ret
        exact ⟨rfl, HO1.out⟩
      · have h3 : 4096 < nb := by omega
        clear hb
        go_wp2_with fail
        go_ret
        exact ⟨rfl, HO1.out⟩

end Go.Proofs.Ytbhihbhjmmeibaa
