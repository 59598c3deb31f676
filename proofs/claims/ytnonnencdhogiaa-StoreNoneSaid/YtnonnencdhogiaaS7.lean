/-
  Layer 14: Apply.
-/
import Derived.Test.YtnonnencdhogiaaS6
import Derived.Test.YtnonnencdhogiaaHead1
import Derived.Deep.DeepCutAuto
import Derived.Laws.Cover3
namespace Go.Proofs.Ytnonnencdhogiaa
open Go.RowKit
open Cb (ChIs Foot)

theorem info27 : (Try.prog.info? 27).map (·.size) = some 4 := by kernel_rfl
/-- Apply's answer -/
def applyC (key : ByteArray) (n : Nat) (st : Int) (dead : Bool) (xs : List Ver) : Int :=
  if mayI key.size n st dead ≠ 0 then mayI key.size n st dead else match xs.getLast? with
    | none => 0
    | some x => if st ≤ x.st then 130 else 0

section
variable {P : Program} {Q : Exit → Act → World → Prop} {T : Nat → Value → World → Prop} {al : Nat → Bool} {i : Nat} {o : Oper} {a : Act} {w : World}
theorem left_calls (f : FuncId) (args : Array Value) (ho : (execOp a.eval o).run P w = .ok (.enter f args) w) (hc : Calls P f args w fun e w' => ∃ v, e = .returned v ∧ T i v w' ∧ Only NoneOf w w') (hal : al i = false) : o.wp P a w (Left T al i o a w) Q := by
  unfold Oper.wp
  rw [ho]
  exact hc.mono fun e w' ⟨v, he, ht, hw⟩ => by
    subst he
    exact ⟨v, rfl, ht, hw, fun h => by rw [hal] at h; cases h⟩
end

/-- what region 10 has made -/
def ApT (p b3 : Nat) (st : Int) (A : Option Addr) (nn cc : Nat) (dead : Bool) (bs : List UInt8) (B : Nat) : Nat → Value → World → Prop
  | 0, v, _ => v = .pointer (some ⟨p, 0, none⟩)
  | 1, v, _ => v = .pointer (some ⟨b3, 1, none⟩)
  | 2, v, _ => v = .int .i64 st
  | 3, v, _ => v = .pointer (some ⟨b3, 2, none⟩)
  | 4, v, _ => v = .slice A nn cc
  | 5, v, w => ∃ A' c', v = .slice A' bs.length c' ∧ RowB w B v bs
  | 6, v, _ => v = .pointer (some ⟨b3, 3, none⟩)
  | 7, v, _ => v = .bool dead
  | 8, v, w => ∃ A' c', v = .agg #[.int .i64 st, .slice A' bs.length c', .bool dead] ∧ RowB w B (.slice A' bs.length c') bs
  | _, _, _ => True
theorem RowB.keep {w w' : World} {B : Nat} {v : Value} {l : List UInt8} (h : RowB w B v l) (ho : Only NoneOf w w') : RowB w' B v l := by
  refine ⟨h.1, ?_⟩
  rcases h.2 with h0 | ⟨g, cap, cur, hv, hb, hh, r⟩
  · exact .inl h0
  · exact .inr ⟨g, cap, cur, hv, hb, Blk.only (t := 5) (cs := cur) hh ho (fun h => h), r⟩
theorem RowB.base {w : World} {B B' : Nat} {v : Value} {l : List UInt8} (h : RowB w B v l) (hB : B' ≤ B) : RowB w B' v l := by
  refine ⟨h.1, ?_⟩
  rcases h.2 with h0 | ⟨g, cap, cur, hv, hb, r⟩
  · exact .inl h0
  · exact .inr ⟨g, cap, cur, hv, Nat.le_trans hB hb, r⟩
theorem ApT_keep (p b3 : Nat) (st : Int) (A : Option Addr) (nn cc : Nat) (dead : Bool) (bs : List UInt8) (B : Nat) (i : Nat) (v : Value) (w w' : World) (h : ApT p b3 st A nn cc dead bs B i v w) (ho : Only NoneOf w w') : ApT p b3 st A nn cc dead bs B i v w' :=
  match i, h with
  | 0, h | 1, h | 2, h | 3, h | 4, h | 6, h | 7, h => h
  | 5, ⟨A', c', h1, h2⟩ => ⟨A', c', h1, h2.keep ho⟩
  | 8, ⟨A', c', h1, h2⟩ => ⟨A', c', h1, h2.keep ho⟩
  | _ + 9, _ => trivial

theorem BytesAt.only {w w' : World} {S : Nat → Prop} {A : Option Addr} {bs : List UInt8} (h : BytesAt w A bs) (ho : Only S w w') (hS : ∀ g off, A = some ⟨g, off, none⟩ → g < w.heap.size → ¬ S g) : BytesAt w' A bs := fun i c hc => by
  obtain ⟨g, off, hA, hg, h1⟩ := h i c hc
  exact ⟨g, off, hA, Nat.lt_of_lt_of_le hg ho.size, (ho.cell (p := ⟨g, off + i, none⟩) hg (hS g off hA hg)).trans h1⟩
theorem RowB.place {w : World} {B n c : Nat} {A : Option Addr} {bs : List UInt8} (h : RowB w B (.slice A n c) bs) : BytesAt w A bs ∧ ∀ g off, A = some ⟨g, off, none⟩ → B ≤ g ∧ g < w.heap.size := by
  refine ⟨?_, fun g off hA => ?_⟩
  · obtain ⟨A', cap, hv, hb⟩ := h.at
    simp only [Value.slice.injEq] at hv
    rw [hv.1]
    exact hb
  · rcases h.2 with ⟨hv, _⟩ | ⟨g', cap, cur, hv, hb, hh, _⟩
    · simp only [Value.slice.injEq] at hv
      rw [hv.1] at hA
      cases hA
    · simp only [Value.slice.injEq] at hv
      rw [hv.1] at hA
      simp only [Option.some.injEq, Addr.mk.injEq] at hA
      obtain ⟨rfl, _⟩ := hA
      exact ⟨hb, Blk.lt (t := 5) (cs := cur) hh⟩

theorem Sto.setLive {w : World} {s m n : Nat} {D : MD} {C : ByteArray → Option Ch} {live : Int} {V : ByteArray → List Ver} {U : Nat → Prop} (h : Sto w s m n D C live V U) (l' : Int) : Sto (w.setCell ⟨s, 1, none⟩ (.int .i64 l')) s m n D C l' V U := by
  have ho : Only (· = s) w (w.setCell ⟨s, 1, none⟩ (.int .i64 l')) := (Only.refl (fun x => x = s) w).put (p := ⟨s, 1, none⟩) (.inl rfl) _
  exact ⟨⟨h.is.blk.put 1 (.int .i64 l'), map_only h.is.map ho (fun e => h.is.sm e.symm), h.is.keys, fun key c hc => (h.is.chains key c hc).only ho (fun k hk e => (h.is.far key c hc k hk).1 e), h.is.apart, h.is.far, h.is.sm⟩,
    h.len, fun key c hc i l x hl hx => (h.ver key c hc i l x hl hx).turn ho (fun g _ hn e => hn (.inl (.inl e))) (fun _ _ h => h), h.nov, h.has⟩

/-- values that stand, whatever the world -/
def ConstT (f : Nat → Value) (i : Nat) (v : Value) (_ : World) : Prop := v = f i

def ApplyPost (s m n : Nat) (C : ByteArray → Option Ch) (live : Int) (V : ByteArray → List Ver) (U : Nat → Prop) (key : ByteArray) (x : Ver) (w : World) (e : Ending) (w' : World) : Prop :=
  e = .returned (.int .i64 0) ∧ ∃ D' C', Sto w' s m (n + 1) D' C' (live + (wgt key (V key ++ [x]) - wgt key (V key))) (upd V key (V key ++ [x])) U ∧ Only (Ter s m C) w w' ∧ ∀ k, Ter s m C' k → Ter s m C k ∨ w.heap.size ≤ k

set_option maxRecDepth 100000 in
set_option maxHeartbeats 1000000 in
theorem apply_bad (w : World) (s : Nat) (key : ByteArray) (st : Int) (A : Option Addr) (nn cc : Nat) (dead : Bool) (hbad : mayI key.size nn st dead ≠ 0) :
    Calls Try.prog 21 #[.pointer (some ⟨s, 0, none⟩), .agg (verC key st (.slice A nn cc) dead)] w fun e w' => e = .returned (.int .i64 (mayI key.size nn st dead)) ∧ Only NoneOf w w' := by
  have HM := fun u => Lib.hid (may_is key st A nn cc dead u)
  have B3 := Blk.new w 27 (verC key st (.slice A nn cc) dead)
  have HO := Lib.hid ((Only.refl NoneOf w).alloc (.cells (verC key st (.slice A nn cc) dead) 27))
  generalize mayI key.size nn st dead = mi at *
  go_enter Try.func21, Try.ntmps21
  go_wp2_with (refine wpList_load_row rfl 27 (.tmp 3) rfl w.heap.size rfl 27 _ (0, 0) _ B3 Try.underlying27 rfl info27 ?_)
  refine (HM _).out.mono ?_; rintro e w1 ⟨rfl, ho1⟩
  have HO1 := Lib.hid (HO.out.trans ho1)
  clear ho1
  go_wp2_with fail
  go_ret
  exact ⟨rfl, HO1.out⟩

set_option maxRecDepth 100000 in
set_option maxHeartbeats 4000000 in
theorem apply_ok (w : World) (s m n : Nat) (D : MD) (C : ByteArray → Option Ch) (live : Int) (V : ByteArray → List Ver) {U : Nat → Prop} (hU : ∀ k, U k → k < w.heap.size) (key : ByteArray) (st : Int) (A : Option Addr) (nn cc : Nat) (dead : Bool) (bs : List UInt8)
    (hnn : bs.length = nn) (hby : BytesAt w A bs) (hmay : mayI key.size nn st dead = 0) (h : Sto w s m n D C live V U) (hV : ∀ x ∈ V key, x.bs.length ≤ 4096) (hnew : ∀ x ∈ V key, x.st < st) (hfew : (V key).length < 3518437208800) (hn : n < 9223372036854775000)
    (hlive : -4611686018427387904 ≤ live ∧ live ≤ 4611686018427387904) (hkey : key.size ≤ 255) (hbl : nn ≤ 4096) (hst : 0 ≤ st) :
    Calls Try.prog 21 #[.pointer (some ⟨s, 0, none⟩), .agg (verC key st (.slice A nn cc) dead)] w (ApplyPost s m n C live V U key ⟨st, bs, dead⟩ w) := by
  have HM := fun u => Lib.hid (may_is key st A nn cc dead u)
  have HUU := Lib.hid hU
  have HMAY := Lib.hid hmay
  have B3 := Blk.new w 27 (verC key st (.slice A nn cc) dead)
  have HO := Lib.hid ((Only.refl NoneOf w).alloc (.cells (verC key st (.slice A nn cc) dead) 27))
  have hkl : key.size ≤ maxLen := by unfold maxLen; omega
  have HS := Lib.hid h
  have HBY := Lib.hid hby
  have hb3 := B3.lt
  clear hmay
  go_enter Try.func21, Try.ntmps21
  go_wp2_with (refine wpList_load_row rfl 27 (.tmp 3) rfl w.heap.size rfl 27 _ (0, 0) _ B3 Try.underlying27 rfl info27 ?_)
  refine (HM _).out.mono ?_; rintro e w1 ⟨rfl, ho1⟩
  rw [HMAY.out]
  have HO1 := Lib.hid (HO.out.trans ho1)
  have E3 := B3.only ho1 (fun h => h)
  have k0 := E3.cellv 0 rfl
  clear ho1 B3 HM HMAY HO
  go_wp2_with fail
  refine (of_is w1 s m n D C live key hkl (HS.out.keep HO1.out).is).mono ?_; rintro e w1 ⟨rfl, rfl⟩
  have hbs : bs.length ≤ 35184372088832 := by omega
  have hw1 := E3.lt
  cases hc : C key
  case' none =>
    have hOp := (Only.refl NoneOf w1).alloc (.cells #[.slice none 0 0] 88)
    obtain ⟨vv, hvv⟩ : ∃ vv, vv = (Value.slice none 0 0) := ⟨_, rfl⟩
    obtain ⟨ls, hls⟩ : ∃ ls : List Lk, ls = [] := ⟨_, rfl⟩
    have hch : ChIs (w1.alloc (.cells #[.slice none 0 0] 88)) w1.heap.size vv ls := by
      rw [hvv, hls]
      exact ⟨Blk.new w1 88 _, ⟨rfl, .inl ⟨rfl, rfl⟩⟩, fun _ h => (by cases h), ⟨fun _ h => (by cases h), List.Pairwise.nil⟩, Nat.zero_le _⟩
    have HVV := Lib.hid hvv
    have HLS := Lib.hid (show linksOf (C key) = ls by rw [hc, hls]; rfl)
    have HFT := Lib.hid (show ∀ k, Foot w1.heap.size vv k → (∃ c, C key = some c ∧ Foot c.1 c.2.1 k) ∨ w.heap.size < k from fun k hk => by
      rw [hvv] at hk
      rcases hk with rfl | hk
      · exact .inr (by omega)
      · simp [Value.ownBlock] at hk)
    have HCH := Lib.hid hch
    have HOP := Lib.hid (HO1.out.trans hOp)
    have E3' := E3.only hOp (fun h => h)
    have HMU := Lib.hid (show ∀ a ∈ ls, a.stamp < st by rw [hls]; simp)
    have HLF := Lib.hid (show ls.length < 3518437208800 by rw [hls]; decide)
    clear hch hvv hls hOp hc E3
    simp only [chPtr]
    go_wp2_with fail
    refine (weight_is _ s m n D C live V key hkey (HS.out.keep HOP.out) hV).mono ?_; rintro e W ⟨rfl, ho2⟩
    have hCH := HCH.out.keep ho2
    have E3 := E3'.only ho2 (fun h => h)
    have HW := Lib.hid (HOP.out.trans ho2)
    have hpW := hCH.lt
    clear ho2 HCH HOP E3' HO1 k0
    generalize w1.heap.size = p at *
  case' some c =>
    obtain ⟨p, vv, ls⟩ := c
    have hch := (HS.out.keep HO1.out).is.chains key _ hc
    have hfar := fun k hk => HS.out.is.far key _ hc k hk
    have HLS := Lib.hid (show linksOf (C key) = ls by rw [hc]; rfl)
    have HFT := Lib.hid (show ∀ k, Foot p vv k → (∃ c, C key = some c ∧ Foot c.1 c.2.1 k) ∨ w.heap.size < k from fun k hk => .inl ⟨_, hc, hk⟩)
    have HCH := Lib.hid hch
    have HMU := Lib.hid (show ∀ a ∈ ls, a.stamp < st from fun a ha => by
      obtain ⟨i, hi, rfl⟩ := List.getElem_of_mem ha
      have hl := HS.out.len key _ hc
      have hiV : i < (V key).length := by rw [← hl]; exact hi
      have := (HS.out.ver key _ hc i ls[i] (V key)[i] (List.getElem?_eq_getElem hi) (List.getElem?_eq_getElem hiV)).1
      rw [this]
      exact hnew _ (List.getElem_mem hiV))
    have HLF := Lib.hid (show ls.length < 3518437208800 by have := HS.out.len key _ hc; simp only at this; omega)
    have HVV := Lib.hid (show True from trivial)
    clear hch hfar hc
    simp only [chPtr]
    go_wp2_with fail
    refine (weight_is _ s m n D C live V key hkey (HS.out.keep HO1.out) hV).mono ?_; rintro e W ⟨rfl, ho2⟩
    have hCH := HCH.out.keep ho2
    have E3' := E3.only ho2 (fun h => h)
    have HW := Lib.hid (HO1.out.trans ho2)
    have hpW := hCH.lt
    clear ho2 HCH HO1 k0 E3
    have E3 := E3'
    clear E3'
  all_goals
    have HE3 := Lib.hid E3
    have HCHW := Lib.hid hCH
    go_upto_region 10 with (fail)
    refine wp_region_head 9 70 (ApT p w.heap.size st A nn cc dead bs W.heap.size) (fun _ => false) rfl (by kernel_rfl) (by kernel_rfl) (ApT_keep _ _ _ _ _ _ _ _ _) (fun _ _ _ h => by cases h) ?_ ?_
    · intro i o hi ho a u hu hs ht
      have e3 : a.tmps.getD 3 undef = .pointer (some ⟨w.heap.size, 0, none⟩) := hs 3 (of_decide_eq_true (by kernel_rfl))
      have e6 : a.tmps.getD 6 undef = .pointer (some ⟨p, 0, none⟩) := hs 6 (of_decide_eq_true (by kernel_rfl))
      have F3 := HE3.out.only hu (fun h => h)
      have c1 := F3.cellv 1 rfl
      have c2 := F3.cellv 2 rfl
      have c3 := F3.cellv 3 rfl
      have : i = 0 ∨ i = 1 ∨ i = 2 ∨ i = 3 ∨ i = 4 ∨ i = 5 ∨ i = 6 ∨ i = 7 ∨ i = 8 := by omega
      rcases this with rfl | rfl | rfl | rfl | rfl | rfl | rfl | rfl | rfl
      · obtain rfl := Option.some.inj (ho : some _ = some o)
        exact left_value (.pointer (some ⟨p, 0, none⟩)) (by simp [go_sem, e6]) rfl rfl
      · obtain rfl := Option.some.inj (ho : some _ = some o)
        exact left_value (.pointer (some ⟨w.heap.size, 1, none⟩)) (by simp [go_sem, e3]) rfl rfl
      · obtain rfl := Option.some.inj (ho : some _ = some o)
        have s0 : a.tmps.getD 29 undef = .pointer (some ⟨w.heap.size, 1, none⟩) := ht 1 (by omega) (by kernel_rfl)
        exact left_value (.int .i64 st) (by simp [go_sem, s0, c1]) rfl rfl
      · obtain rfl := Option.some.inj (ho : some _ = some o)
        exact left_value (.pointer (some ⟨w.heap.size, 2, none⟩)) (by simp [go_sem, e3]) rfl rfl
      · obtain rfl := Option.some.inj (ho : some _ = some o)
        have s0 : a.tmps.getD 31 undef = .pointer (some ⟨w.heap.size, 2, none⟩) := ht 3 (by omega) (by kernel_rfl)
        exact left_value (.slice A nn cc) (by simp [go_sem, s0, c2]) rfl rfl
      · obtain rfl := Option.some.inj (ho : some _ = some o)
        have s0 : a.tmps.getD 32 undef = .slice A nn cc := ht 4 (by omega) (by kernel_rfl)
        refine left_calls 47 #[.slice A nn cc] (by simp [go_sem, s0]) ((own_is A nn cc bs u hnn (HBY.out.keep (HW.out.trans hu)) (by omega)).mono ?_) rfl
        rintro e u' ⟨v, rfl, hr, ho'⟩
        obtain ⟨A', c', rfl, _⟩ := hr.at
        exact ⟨_, rfl, ⟨A', c', rfl, hr.base hu.size⟩, ho'⟩
      · obtain rfl := Option.some.inj (ho : some _ = some o)
        exact left_value (.pointer (some ⟨w.heap.size, 3, none⟩)) (by simp [go_sem, e3]) rfl rfl
      · obtain rfl := Option.some.inj (ho : some _ = some o)
        have s0 : a.tmps.getD 34 undef = .pointer (some ⟨w.heap.size, 3, none⟩) := ht 6 (by omega) (by kernel_rfl)
        exact left_value (.bool dead) (by simp [go_sem, s0, c3]) rfl rfl
      · obtain rfl := Option.some.inj (ho : some _ = some o)
        have s0 : a.tmps.getD 30 undef = .int .i64 st := ht 2 (by omega) (by kernel_rfl)
        obtain ⟨A', c', s1, hr⟩ : ∃ A' c', a.tmps.getD 33 undef = .slice A' bs.length c' ∧ RowB u W.heap.size (a.tmps.getD 33 undef) bs := ht 5 (by omega) (by kernel_rfl)
        have s2 : a.tmps.getD 35 undef = .bool dead := ht 7 (by omega) (by kernel_rfl)
        rw [s1] at hr
        have t0 : a.tmps[30]?.getD undef = .int .i64 st := by simpa using s0
        have t1 : a.tmps[33]?.getD undef = .slice A' bs.length c' := by simpa using s1
        have t2 : a.tmps[35]?.getD undef = .bool dead := by simpa using s2
        exact left_value (.agg #[.int .i64 st, .slice A' bs.length c', .bool dead]) (by simp [go_sem, t0, t1, t2]) rfl ⟨A', c', rfl, hr⟩
    · intro V' u hu hV' _
      have v0 : V' 0 = .pointer (some ⟨p, 0, none⟩) := hV' 0 (by omega)
      have v1 : V' 1 = .pointer (some ⟨w.heap.size, 1, none⟩) := hV' 1 (by omega)
      have v2 : V' 2 = .int .i64 st := hV' 2 (by omega)
      have v3 : V' 3 = .pointer (some ⟨w.heap.size, 2, none⟩) := hV' 3 (by omega)
      have v4 : V' 4 = .slice A nn cc := hV' 4 (by omega)
      obtain ⟨A5, c5, v5, _⟩ : ∃ A' c', V' 5 = .slice A' bs.length c' ∧ RowB u W.heap.size (V' 5) bs := hV' 5 (by omega)
      have v6 : V' 6 = .pointer (some ⟨w.heap.size, 3, none⟩) := hV' 6 (by omega)
      have v7 : V' 7 = .bool dead := hV' 7 (by omega)
      obtain ⟨A', c', v8, hr⟩ : ∃ A' c', V' 8 = .agg #[.int .i64 st, .slice A' bs.length c', .bool dead] ∧ RowB u W.heap.size (.slice A' bs.length c') bs := hV' 8 (by omega)
      change wpList _ _ _ _ (Act.put (Act.put (Act.put (Act.put (Act.put (Act.put (Act.put (Act.put (Act.put _ (some 28) (V' 0)) (some 29) (V' 1)) (some 30) (V' 2)) (some 31) (V' 3)) (some 32) (V' 4)) (some 33) (V' 5)) (some 34) (V' 6)) (some 35) (V' 7)) (some 36) (V' 8)) _
      rw [v0, v1, v2, v3, v4, v5, v6, v7, v8]
      simp only [Act.put, List.setIfInBounds_toArray, List.set_cons_zero, List.set_cons_succ]
      simp only [List.drop_succ_cons, List.drop_zero]
      have HC2 := Lib.hid (HCHW.out.keep hu)
      have HSu := Lib.hid (HS.out.keep (HW.out.trans hu))
      have hFs : ∀ k, Foot p vv k → k ≠ s ∧ k ≠ m ∧ k ≠ w.heap.size := fun k hk => by
        have h1 := HS.out.is.blk.lt
        have h2 := HS.out.is.map.lt
        rcases HFT.out k hk with ⟨c, hc, hf⟩ | hgt
        · have h3 := (HS.out.is.chains key c hc).foot_lt hf
          have h4 := HS.out.is.far key c hc k hf
          exact ⟨h4.1, h4.2, by omega⟩
        · exact ⟨by omega, by omega, by omega⟩
      have HFS := Lib.hid hFs
      have F3 := Lib.hid (HE3.out.only hu (fun h => h))
      have HRP := Lib.hid hr.place
      have HU := Lib.hid hu
      clear hFs hr hu hV' v0 v1 v2 v3 v4 v5 v6 v7 v8
      go_wp2_with fail
      refine (Cb.add_ok u p vv ls st (A', nn, c') dead HC2.out hst HMU.out HLF.out).mono ?_; rintro e w4 ⟨v', rfl, hA4, ho4, hft4⟩
      have hblk4 := HSu.out.is.blk.only ho4 (fun h => (HFS.out _ h).1 rfl)
      have hown4 := map_only HSu.out.is.map ho4 (fun h => (HFS.out _ h).2.1 rfl)
      have k4 := hblk4.cellv 0 rfl
      have G3 := F3.out.only ho4 (fun h => (HFS.out _ h).2.2 rfl)
      have k0 := G3.cellv 0 rfl
      have HA4 := Lib.hid hA4
      have HO4 := Lib.hid ho4
      have HFT4 := Lib.hid hft4
      have HG3 := Lib.hid G3
      have HB4 := Lib.hid hblk4
      clear hA4 ho4 hft4 G3 hblk4
      have hmn := fun u => (run_eql_map_nil (P := Try.prog) u 81 9 84 (some m) Try.underlying81)
      go_upto_region 15 with (fail)
      refine wp_region_head 7 70 (ConstT fun i => match i with | 0 => .pointer (some ⟨s, 0, none⟩) | 1 => .pointer (some ⟨s, 0, none⟩) | 2 => .pointer (some ⟨s, 0, none⟩) | 3 => .map (some m) | 4 => .pointer (some ⟨w.heap.size, 0, none⟩) | 5 => .string key | _ => .pointer (some ⟨p, 0, none⟩)) (fun _ => false) rfl (by kernel_rfl) (by kernel_rfl) (fun _ _ _ _ h _ => h) (fun _ _ _ h => by cases h) ?_ ?_
      · intro i o hi ho a u' hu hs ht
        have e0 : a.tmps.getD 0 undef = .pointer (some ⟨s, 0, none⟩) := hs 0 (of_decide_eq_true (by kernel_rfl))
        have e3 : a.tmps.getD 3 undef = .pointer (some ⟨w.heap.size, 0, none⟩) := hs 3 (of_decide_eq_true (by kernel_rfl))
        have e6 : a.tmps.getD 6 undef = .pointer (some ⟨p, 0, none⟩) := hs 6 (of_decide_eq_true (by kernel_rfl))
        have c0 := (HG3.out.only hu (fun h => h)).cellv 0 rfl
        have d0 := (HB4.out.only hu (fun h => h)).cellv 0 rfl
        have : i = 0 ∨ i = 1 ∨ i = 2 ∨ i = 3 ∨ i = 4 ∨ i = 5 ∨ i = 6 := by omega
        rcases this with rfl | rfl | rfl | rfl | rfl | rfl | rfl
        · obtain rfl := Option.some.inj (ho : some _ = some o)
          exact left_value (.pointer (some ⟨s, 0, none⟩)) (by simp [go_sem, e0]) rfl rfl
        · obtain rfl := Option.some.inj (ho : some _ = some o)
          have s0 : a.tmps.getD 50 undef = .pointer (some ⟨s, 0, none⟩) := ht 0 (by omega) (by kernel_rfl)
          exact left_value (.pointer (some ⟨s, 0, none⟩)) (by simp [go_sem, s0]) rfl rfl
        · obtain rfl := Option.some.inj (ho : some _ = some o)
          have s0 : a.tmps.getD 51 undef = .pointer (some ⟨s, 0, none⟩) := ht 1 (by omega) (by kernel_rfl)
          exact left_value (.pointer (some ⟨s, 0, none⟩)) (by simp [go_sem, s0]) rfl rfl
        · obtain rfl := Option.some.inj (ho : some _ = some o)
          have s0 : a.tmps.getD 52 undef = .pointer (some ⟨s, 0, none⟩) := ht 2 (by omega) (by kernel_rfl)
          exact left_value (.map (some m)) (by simp [go_sem, s0, d0]) rfl rfl
        · obtain rfl := Option.some.inj (ho : some _ = some o)
          exact left_value (.pointer (some ⟨w.heap.size, 0, none⟩)) (by simp [go_sem, e3]) rfl rfl
        · obtain rfl := Option.some.inj (ho : some _ = some o)
          have s0 : a.tmps.getD 54 undef = .pointer (some ⟨w.heap.size, 0, none⟩) := ht 4 (by omega) (by kernel_rfl)
          exact left_value (.string key) (by simp [go_sem, s0, c0]) rfl rfl
        · obtain rfl := Option.some.inj (ho : some _ = some o)
          exact left_value (.pointer (some ⟨p, 0, none⟩)) (by simp [go_sem, e6]) rfl rfl
      intro V2 u2 hu2 hV2 _
      have v0 : V2 0 = .pointer (some ⟨s, 0, none⟩) := hV2 0 (by omega)
      have v1 : V2 1 = .pointer (some ⟨s, 0, none⟩) := hV2 1 (by omega)
      have v2 : V2 2 = .pointer (some ⟨s, 0, none⟩) := hV2 2 (by omega)
      have v3 : V2 3 = .map (some m) := hV2 3 (by omega)
      have v4 : V2 4 = .pointer (some ⟨w.heap.size, 0, none⟩) := hV2 4 (by omega)
      have v5 : V2 5 = .string key := hV2 5 (by omega)
      have v6 : V2 6 = .pointer (some ⟨p, 0, none⟩) := hV2 6 (by omega)
      change wpList _ _ _ _ (Act.put (Act.put (Act.put (Act.put (Act.put (Act.put (Act.put _ (some 50) (V2 0)) (some 51) (V2 1)) (some 52) (V2 2)) (some 53) (V2 3)) (some 54) (V2 4)) (some 55) (V2 5)) (some 56) (V2 6)) _
      rw [v0, v1, v2, v3, v4, v5, v6]
      simp only [Act.put, List.setIfInBounds_toArray, List.set_cons_zero, List.set_cons_succ]
      simp only [List.drop_succ_cons, List.drop_zero]
      have hown2 := map_only hown4 hu2 (fun h => h)
      refine wpList_mapUpdate_own u2 rfl (.tmp 53) (.tmp 55) (.tmp 56) 81 rfl 9 84 law9 Try.underlying81 RP m n D rfl hown2 (by unfold maxLen; omega) (.string key) (.pointer (some ⟨p, 0, none⟩)) (.string key.data.toList) rfl rfl (Go.WideMaps.keyOf_string_mk Try.underlying9 hkl) (.lit (.int .i64 p)) [] rfl ?_
      intro w5 hown5 hgrow5
      have ho5 := only_grown hgrow5
      -- the new store
      have hS : ∀ k, (k = m ∨ ∃ c, C key = some c ∧ Foot c.1 c.2.1 k) → True := fun _ _ => trivial
      have hsz := HW.out.size
      have hsu := HU.out.size
      have hs4 := HO4.out.size
      have hs2 := hu2.size
      have hmlt := HS.out.is.map.lt
      have hslt := HS.out.is.blk.lt
      have hoa : Only (fun k => k = m ∨ ∃ c, C key = some c ∧ Foot c.1 c.2.1 k) w w5 := by
        refine ((((HW.out.trans HU.out).mono (fun _ _ h => h.elim)).step HO4.out (fun k hk hf => ?_)).step hu2 (fun _ _ h => h.elim)).step ho5 (fun k hk hf => .inl ?_)
        · rcases HFT.out k hf with h | h
          · exact .inr h
          · omega
        · simpa using hf.symm
      have hA5 : ChIs w5 p v' (ls ++ [⟨st, .slice A' nn c', dead⟩]) := (HA4.out.keep hu2).only ho5 (fun k hk hm' => by
        have hm'' : m = k := by simpa using hm'
        subst hm''
        rcases HFT4.out _ hk with h | h
        · exact (HFS.out _ h).2.1 rfl
        · omega)
      have hf5 : ∀ k, Foot p v' k → (∃ c, C key = some c ∧ Foot c.1 c.2.1 k) ∨ w.heap.size ≤ k := fun k hk => by
        rcases HFT4.out k hk with h | h
        · rcases HFT.out k h with h | h
          · exact .inl h
          · exact .inr (by omega)
        · exact .inr (by omega)
      have hx5 : Holds w5 (TerU s m (upd C key (some (p, v', linksOf (C key) ++ [⟨st, .slice A' nn c', dead⟩]))) U) ⟨st, .slice A' nn c', dead⟩ ⟨st, bs, dead⟩ := by
        refine ⟨rfl, rfl, A', c', by rw [hnn], ?_, fun hne g off hA => ?_⟩
        · refine (((HRP.out.1).only HO4.out (fun g off hA hg hf => ?_)).keep hu2).only ho5 (fun g off hA hg hf => ?_)
          · have h1 := (HRP.out.2 g off hA).1
            have h2 := HCHW.out.foot_lt hf
            omega
          · have h1 := (HRP.out.2 g off hA).1
            have h2 : m = g := by simpa using hf
            omega
        · have h1 := HRP.out.2 g off hA
          rintro (ht | hu)
          · rcases ht with rfl | rfl | ⟨k2, c2, hc2, hf⟩
            · omega
            · omega
            · by_cases e : k2 = key
              · rw [e, upd_same] at hc2
                cases hc2
                rcases HFT4.out g hf with h | h
                · have := HCHW.out.foot_lt h
                  omega
                · omega
              · rw [upd_other _ _ e] at hc2
                have := (HS.out.is.chains k2 c2 hc2).foot_lt hf
                omega
          · have := HUU.out g hu
            omega
      have hsto := HS.out.add hoa (by rw [HLS.out]; exact hA5) hf5 hown5 hx5
      have HST := Lib.hid hsto
      have HOA := Lib.hid hoa
      have HF5 := Lib.hid hf5
      have hm3 : m ≠ w.heap.size := by omega
      have G5 := (HG3.out.only hu2 (fun h => h)).only ho5 (fun h => hm3 (by simpa using h))
      have HG5 := Lib.hid G5
      clear hsto hoa hf5 hx5 hA5 hown5 hgrow5 ho5 hown2 hu2 hV2 v0 v1 v2 v3 v4 v5 v6 hS G5 k0 k4 hown4 hmn
      have hwt := weight_is
      have hup : upd V key (V key ++ [⟨st, bs, dead⟩]) key = V key ++ [⟨st, bs, dead⟩] := upd_same _ _ _
      have HWT := Lib.hid (fun u3 (ho : Only NoneOf w5 u3) => weight_is u3 s m (n + 1) _ _ live _ key hkey (HST.out.keep ho) (fun x hx => by
        rw [hup] at hx
        rcases List.mem_append.1 hx with h | h
        · exact hV x h
        · rw [List.mem_singleton.1 h]; show bs.length ≤ 4096; omega))
      rw [hup] at HWT
      have HB5 := Lib.hid HST.out.is.blk
      obtain ⟨W2, hW2⟩ : ∃ x : Int, x = wgt key (V key ++ [⟨st, bs, dead⟩]) := ⟨_, rfl⟩
      obtain ⟨W1, hW1⟩ : ∃ x : Int, x = wgt key (V key) := ⟨_, rfl⟩
      have hwb : ∀ xs : List Ver, (∀ x ∈ xs, x.bs.length ≤ 4096) → 0 ≤ wgt key xs ∧ wgt key xs ≤ 5000 := fun xs hxs => by
        unfold wgt
        cases hg : xs.getLast? with
        | none => simp
        | some x =>
          have := hxs x (List.mem_of_getLast? hg)
          simp only
          split <;> omega
      have b1 := hwb (V key) hV
      have b2 := hwb (V key ++ [⟨st, bs, dead⟩]) (fun x hx => by
        rcases List.mem_append.1 hx with h | h
        · exact hV x h
        · rw [List.mem_singleton.1 h]; show bs.length ≤ 4096; omega)
      rw [← hW1] at b1 ⊢
      rw [← hW2] at b2 HWT
      have HW1 := Lib.hid hW1
      have HW2 := Lib.hid hW2
      have hq1 : IntKind.i64.wrap (W2 - W1) = W2 - W1 := by rw [IntKind.wrap_i64]; omega
      have hq2 : IntKind.i64.wrap (live + (W2 - W1)) = live + (W2 - W1) := by rw [IntKind.wrap_i64]; omega
      clear hW1 hW2 hup hwb hwt
      go_upto_region 16 with (fail)
      refine wp_region_head 11 70 (ConstT fun i => match i with | 0 => .pointer (some ⟨s, 0, none⟩) | 1 => .pointer (some ⟨s, 0, none⟩) | 2 => .pointer (some ⟨s, 1, none⟩) | 3 => .int .i64 live | 4 => .pointer (some ⟨s, 0, none⟩) | 5 => .pointer (some ⟨w.heap.size, 0, none⟩) | 6 => .string key | 7 => .int .i64 W2 | 8 => .int .i64 W1 | 9 => .int .i64 (W2 - W1) | _ => .int .i64 (live + (W2 - W1))) (fun _ => false) rfl (by kernel_rfl) (by kernel_rfl) (fun _ _ _ _ h _ => h) (fun _ _ _ h => by cases h) ?_ ?_
      · intro i o hi ho a u' hu hs ht
        have e0 : a.tmps.getD 0 undef = .pointer (some ⟨s, 0, none⟩) := hs 0 (of_decide_eq_true (by kernel_rfl))
        have e3 : a.tmps.getD 3 undef = .pointer (some ⟨w.heap.size, 0, none⟩) := hs 3 (of_decide_eq_true (by kernel_rfl))
        have e7 : a.tmps.getD 7 undef = .int .i64 W1 := hs 7 (of_decide_eq_true (by kernel_rfl))
        have c0 := (HG5.out.only hu (fun h => h)).cellv 0 rfl
        have d1 := (HB5.out.only hu (fun h => h)).cellv 1 rfl
        have : i = 0 ∨ i = 1 ∨ i = 2 ∨ i = 3 ∨ i = 4 ∨ i = 5 ∨ i = 6 ∨ i = 7 ∨ i = 8 ∨ i = 9 ∨ i = 10 := by omega
        rcases this with rfl | rfl | rfl | rfl | rfl | rfl | rfl | rfl | rfl | rfl | rfl
        · obtain rfl := Option.some.inj (ho : some _ = some o)
          exact left_value (.pointer (some ⟨s, 0, none⟩)) (by simp [go_sem, e0]) rfl rfl
        · obtain rfl := Option.some.inj (ho : some _ = some o)
          have s0 : a.tmps.getD 57 undef = .pointer (some ⟨s, 0, none⟩) := ht 0 (by omega) (by kernel_rfl)
          exact left_value (.pointer (some ⟨s, 0, none⟩)) (by simp [go_sem, s0]) rfl rfl
        · obtain rfl := Option.some.inj (ho : some _ = some o)
          have s0 : a.tmps.getD 58 undef = .pointer (some ⟨s, 0, none⟩) := ht 1 (by omega) (by kernel_rfl)
          exact left_value (.pointer (some ⟨s, 1, none⟩)) (by simp [go_sem, s0]) rfl rfl
        · obtain rfl := Option.some.inj (ho : some _ = some o)
          have s0 : a.tmps.getD 59 undef = .pointer (some ⟨s, 1, none⟩) := ht 2 (by omega) (by kernel_rfl)
          exact left_value (.int .i64 live) (by simp [go_sem, s0, d1]) rfl rfl
        · obtain rfl := Option.some.inj (ho : some _ = some o)
          exact left_value (.pointer (some ⟨s, 0, none⟩)) (by simp [go_sem, e0]) rfl rfl
        · obtain rfl := Option.some.inj (ho : some _ = some o)
          exact left_value (.pointer (some ⟨w.heap.size, 0, none⟩)) (by simp [go_sem, e3]) rfl rfl
        · obtain rfl := Option.some.inj (ho : some _ = some o)
          have s0 : a.tmps.getD 62 undef = .pointer (some ⟨w.heap.size, 0, none⟩) := ht 5 (by omega) (by kernel_rfl)
          exact left_value (.string key) (by simp [go_sem, s0, c0]) rfl rfl
        · obtain rfl := Option.some.inj (ho : some _ = some o)
          have s0 : a.tmps.getD 61 undef = .pointer (some ⟨s, 0, none⟩) := ht 4 (by omega) (by kernel_rfl)
          have s1 : a.tmps.getD 63 undef = .string key := ht 6 (by omega) (by kernel_rfl)
          refine left_calls 45 #[.pointer (some ⟨s, 0, none⟩), .string key] (by simp [go_sem, s0, s1]) ((HWT.out u' hu).mono ?_) rfl
          rintro e u3 ⟨rfl, ho'⟩
          exact ⟨_, rfl, rfl, ho'⟩
        · obtain rfl := Option.some.inj (ho : some _ = some o)
          exact left_value (.int .i64 W1) (by simp [go_sem, e7]) rfl rfl
        · obtain rfl := Option.some.inj (ho : some _ = some o)
          have s0 : a.tmps.getD 64 undef = .int .i64 W2 := ht 7 (by omega) (by kernel_rfl)
          have s1 : a.tmps.getD 65 undef = .int .i64 W1 := ht 8 (by omega) (by kernel_rfl)
          exact left_value (.int .i64 (W2 - W1)) (by simp [go_sem, s0, s1]; exact hq1) rfl rfl
        · obtain rfl := Option.some.inj (ho : some _ = some o)
          have s0 : a.tmps.getD 60 undef = .int .i64 live := ht 3 (by omega) (by kernel_rfl)
          have s1 : a.tmps.getD 66 undef = .int .i64 (W2 - W1) := ht 9 (by omega) (by kernel_rfl)
          exact left_value (.int .i64 (live + (W2 - W1))) (by simp [go_sem, s0, s1]; exact hq2) rfl rfl
      intro V3 u3 hu3 hV3 _
      have v0 : V3 0 = .pointer (some ⟨s, 0, none⟩) := hV3 0 (by omega)
      have v1 : V3 1 = .pointer (some ⟨s, 0, none⟩) := hV3 1 (by omega)
      have v2 : V3 2 = .pointer (some ⟨s, 1, none⟩) := hV3 2 (by omega)
      have v3 : V3 3 = .int .i64 live := hV3 3 (by omega)
      have v4 : V3 4 = .pointer (some ⟨s, 0, none⟩) := hV3 4 (by omega)
      have v5 : V3 5 = .pointer (some ⟨w.heap.size, 0, none⟩) := hV3 5 (by omega)
      have v6 : V3 6 = .string key := hV3 6 (by omega)
      have v7 : V3 7 = .int .i64 W2 := hV3 7 (by omega)
      have v8 : V3 8 = .int .i64 W1 := hV3 8 (by omega)
      have v9 : V3 9 = .int .i64 (W2 - W1) := hV3 9 (by omega)
      have v10 : V3 10 = .int .i64 (live + (W2 - W1)) := hV3 10 (by omega)
      change wpList _ _ _ _ (Act.put (Act.put (Act.put (Act.put (Act.put (Act.put (Act.put (Act.put (Act.put (Act.put (Act.put _ (some 57) (V3 0)) (some 58) (V3 1)) (some 59) (V3 2)) (some 60) (V3 3)) (some 61) (V3 4)) (some 62) (V3 5)) (some 63) (V3 6)) (some 64) (V3 7)) (some 65) (V3 8)) (some 66) (V3 9)) (some 67) (V3 10)) _
      rw [v0, v1, v2, v3, v4, v5, v6, v7, v8, v9, v10]
      simp only [Act.put, List.setIfInBounds_toArray, List.set_cons_zero, List.set_cons_succ]
      simp only [List.drop_succ_cons, List.drop_zero]
      have hB3 := HB5.out.only hu3 (fun h => h)
      have d1 := hB3.cellv 1 rfl
      have f1 := hB3.free 1
      have HFIN := Lib.hid ((HST.out.keep hu3).setLive (live + (W2 - W1)))
      have HSS := Lib.hid HST.out.is.blk.lt
      have HU3 := Lib.hid hu3
      clear hu3 hV3 v0 v1 v2 v3 v4 v5 v6 v7 v8 v9 v10 hB3
      go_wp2_with fail
      go_ret
      refine ⟨rfl, D.put (.string key.data.toList) (.lit (.int .i64 p)), upd C key (some (p, v', linksOf (C key) ++ [⟨st, .slice A' nn c', dead⟩])), ?_, ?_, fun k hk => ?_⟩
      · rw [← HW1.out, ← HW2.out]
        exact HFIN.out
      · refine (((HOA.out.mono (fun k _ hk => ?_)).step HU3.out (fun _ _ h => h.elim)).put (p := ⟨s, 1, none⟩) (.inl (.inl rfl)) _)
        rcases hk with rfl | ⟨c, hc, hf⟩
        · exact .inr (.inl rfl)
        · exact .inr (.inr ⟨key, c, hc, hf⟩)
      · rcases hk with rfl | rfl | ⟨k2, c2, hc2, hf⟩
        · exact .inl (.inl rfl)
        · exact .inl (.inr (.inl rfl))
        · by_cases e : k2 = key
          · rw [e, upd_same] at hc2
            cases hc2
            rcases HF5.out k hf with ⟨c, hc, hf'⟩ | h
            · exact .inl (.inr (.inr ⟨key, c, hc, hf'⟩))
            · exact .inr h
          · rw [upd_other _ _ e] at hc2
            exact .inl (.inr (.inr ⟨k2, c2, hc2, hf⟩))

end Go.Proofs.Ytnonnencdhogiaa
