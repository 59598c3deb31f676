/-
  Texts of this proof, laid together: S7, S9, S10, S11, SL, S12, Iter, C7b, C8b, InRound, S13, S14.
-/
import Derived.Test.YtnonnencdhogiaaM1
import Derived.Deep.DeepCutAuto
import Derived.Laws.Cover3
import Derived.Maps.RangeWalk
import Derived.Maps.OwnSet
import Derived.Shelf.SlIter.Nil
import Derived.Shelf.SortM.Plain
import Derived.Shelf.SortM.SortNone
import Derived.Ground.GgzProg
import Derived.Ground.SlgmProg
import Derived.RangeFuncNested
import Derived.RangeFuncBound
import Derived.RangeFuncCalls
import Derived.RangeFuncLeaves
import Derived.Shelf.Abstract
import Derived.OwnWalkIn
import Derived.TacticsInMore
import Derived.LoopNIn
import Derived.LoopIn
import Derived.OrdersIn
import Derived.Sort.LoopGhostIn
/-
  Layer 14: Apply.
-/
namespace Go.Proofs.Ytnonnencdhogiaa
open Go.RowKit
open Cb (ChIs Foot)

theorem info27 : (Try.prog.info? 27).map (·.size) = some 4 := by kernel_rfl
/-- Apply's answer -/
def applyC (key : ByteArray) (n : Nat) (st : Int) (dead : Bool) (xs : List Ver) : Int :=
  if mayI key.size n st dead ≠ 0 then mayI key.size n st dead else match xs.getLast? with
    | none => 0
    | some x => if st ≤ x.st then 130 else 0

section
variable {P : Program} {Q : Exit → Act → World → Prop} {T : Nat → Value → World → Prop} {al : Nat → Bool} {i : Nat} {o : Oper} {a : Act} {w : World}
theorem left_calls (f : FuncId) (args : Array Value) (ho : (execOp a.eval o).run P w = .ok (.enter f args) w) (hc : Calls P f args w fun e w' => ∃ v, e = .returned v ∧ T i v w' ∧ Only NoneOf w w') (hal : al i = false) : o.wp P a w (Left T al i o a w) Q := by
  unfold Oper.wp
  rw [ho]
  exact hc.mono fun e w' ⟨v, he, ht, hw⟩ => by
    subst he
    exact ⟨v, rfl, ht, hw, fun h => by rw [hal] at h; cases h⟩
end

/-- what region 10 has made -/
def ApT (p b3 : Nat) (st : Int) (A : Option Addr) (nn cc : Nat) (dead : Bool) (bs : List UInt8) (B : Nat) : Nat → Value → World → Prop
  | 0, v, _ => v = .pointer (some ⟨p, 0, none⟩)
  | 1, v, _ => v = .pointer (some ⟨b3, 1, none⟩)
  | 2, v, _ => v = .int .i64 st
  | 3, v, _ => v = .pointer (some ⟨b3, 2, none⟩)
  | 4, v, _ => v = .slice A nn cc
  | 5, v, w => ∃ A' c', v = .slice A' bs.length c' ∧ RowB w B v bs
  | 6, v, _ => v = .pointer (some ⟨b3, 3, none⟩)
  | 7, v, _ => v = .bool dead
  | 8, v, w => ∃ A' c', v = .agg #[.int .i64 st, .slice A' bs.length c', .bool dead] ∧ RowB w B (.slice A' bs.length c') bs
  | _, _, _ => True
theorem RowB.keep {w w' : World} {B : Nat} {v : Value} {l : List UInt8} (h : RowB w B v l) (ho : Only NoneOf w w') : RowB w' B v l := by
  refine ⟨h.1, ?_⟩
  rcases h.2 with h0 | ⟨g, cap, cur, hv, hb, hh, r⟩
  · exact .inl h0
  · exact .inr ⟨g, cap, cur, hv, hb, Blk.only (t := 5) (cs := cur) hh ho (fun h => h), r⟩
theorem RowB.base {w : World} {B B' : Nat} {v : Value} {l : List UInt8} (h : RowB w B v l) (hB : B' ≤ B) : RowB w B' v l := by
  refine ⟨h.1, ?_⟩
  rcases h.2 with h0 | ⟨g, cap, cur, hv, hb, r⟩
  · exact .inl h0
  · exact .inr ⟨g, cap, cur, hv, Nat.le_trans hB hb, r⟩
theorem ApT_keep (p b3 : Nat) (st : Int) (A : Option Addr) (nn cc : Nat) (dead : Bool) (bs : List UInt8) (B : Nat) (i : Nat) (v : Value) (w w' : World) (h : ApT p b3 st A nn cc dead bs B i v w) (ho : Only NoneOf w w') : ApT p b3 st A nn cc dead bs B i v w' :=
  match i, h with
  | 0, h | 1, h | 2, h | 3, h | 4, h | 6, h | 7, h => h
  | 5, ⟨A', c', h1, h2⟩ => ⟨A', c', h1, h2.keep ho⟩
  | 8, ⟨A', c', h1, h2⟩ => ⟨A', c', h1, h2.keep ho⟩
  | _ + 9, _ => trivial

theorem BytesAt.only {w w' : World} {S : Nat → Prop} {A : Option Addr} {bs : List UInt8} (h : BytesAt w A bs) (ho : Only S w w') (hS : ∀ g off, A = some ⟨g, off, none⟩ → g < w.heap.size → ¬ S g) : BytesAt w' A bs := fun i c hc => by
  obtain ⟨g, off, hA, hg, h1⟩ := h i c hc
  exact ⟨g, off, hA, Nat.lt_of_lt_of_le hg ho.size, (ho.cell (p := ⟨g, off + i, none⟩) hg (hS g off hA hg)).trans h1⟩
theorem RowB.place {w : World} {B n c : Nat} {A : Option Addr} {bs : List UInt8} (h : RowB w B (.slice A n c) bs) : BytesAt w A bs ∧ ∀ g off, A = some ⟨g, off, none⟩ → B ≤ g ∧ g < w.heap.size := by
  refine ⟨?_, fun g off hA => ?_⟩
  · obtain ⟨A', cap, hv, hb⟩ := h.at
    simp only [Value.slice.injEq] at hv
    rw [hv.1]
    exact hb
  · rcases h.2 with ⟨hv, _⟩ | ⟨g', cap, cur, hv, hb, hh, _⟩
    · simp only [Value.slice.injEq] at hv
      rw [hv.1] at hA
      cases hA
    · simp only [Value.slice.injEq] at hv
      rw [hv.1] at hA
      simp only [Option.some.injEq, Addr.mk.injEq] at hA
      obtain ⟨rfl, _⟩ := hA
      exact ⟨hb, Blk.lt (t := 5) (cs := cur) hh⟩

theorem Sto.setLive {w : World} {s m n : Nat} {D : MD} {C : ByteArray → Option Ch} {live : Int} {V : ByteArray → List Ver} {U : Nat → Prop} (h : Sto w s m n D C live V U) (l' : Int) : Sto (w.setCell ⟨s, 1, none⟩ (.int .i64 l')) s m n D C l' V U := by
  have ho : Only (· = s) w (w.setCell ⟨s, 1, none⟩ (.int .i64 l')) := (Only.refl (fun x => x = s) w).put (p := ⟨s, 1, none⟩) (.inl rfl) _
  exact ⟨⟨h.is.blk.put 1 (.int .i64 l'), map_only h.is.map ho (fun e => h.is.sm e.symm), h.is.keys, fun key c hc => (h.is.chains key c hc).only ho (fun k hk e => (h.is.far key c hc k hk).1 e), h.is.apart, h.is.far, h.is.sm⟩,
    h.len, fun key c hc i l x hl hx => (h.ver key c hc i l x hl hx).turn ho (fun g _ hn e => hn (.inl (.inl e))) (fun _ _ h => h), h.nov, h.has⟩

/-- values that stand, whatever the world -/
def ConstT (f : Nat → Value) (i : Nat) (v : Value) (_ : World) : Prop := v = f i

def ApplyPost (s m n : Nat) (C : ByteArray → Option Ch) (live : Int) (V : ByteArray → List Ver) (U : Nat → Prop) (key : ByteArray) (x : Ver) (w : World) (e : Ending) (w' : World) : Prop :=
  e = .returned (.int .i64 0) ∧ ∃ D' C', Sto w' s m (n + 1) D' C' (live + (wgt key (V key ++ [x]) - wgt key (V key))) (upd V key (V key ++ [x])) U ∧ Only (Ter s m C) w w' ∧ ∀ k, Ter s m C' k → Ter s m C k ∨ w.heap.size ≤ k

set_option maxRecDepth 100000 in
set_option maxHeartbeats 1000000 in
theorem apply_bad (w : World) (s : Nat) (key : ByteArray) (st : Int) (A : Option Addr) (nn cc : Nat) (dead : Bool) (hbad : mayI key.size nn st dead ≠ 0) :
    Calls Try.prog 21 #[.pointer (some ⟨s, 0, none⟩), .agg (verC key st (.slice A nn cc) dead)] w fun e w' => e = .returned (.int .i64 (mayI key.size nn st dead)) ∧ Only NoneOf w w' := by
  have HM := fun u => Lib.hid (may_is key st A nn cc dead u)
  have B3 := Blk.new w 27 (verC key st (.slice A nn cc) dead)
  have HO := Lib.hid ((Only.refl NoneOf w).alloc (.cells (verC key st (.slice A nn cc) dead) 27))
  generalize mayI key.size nn st dead = mi at *
  go_enter Try.func21, Try.ntmps21
  go_wp2_with (refine wpList_load_row rfl 27 (.tmp 3) rfl w.heap.size rfl 27 _ (0, 0) _ B3 Try.underlying27 rfl info27 ?_)
  refine (HM _).out.mono ?_; rintro e w1 ⟨rfl, ho1⟩
  have HO1 := Lib.hid (HO.out.trans ho1)
  clear ho1
  go_wp2_with fail
  go_ret
  exact ⟨rfl, HO1.out⟩

set_option maxRecDepth 100000 in
set_option maxHeartbeats 4000000 in
theorem apply_ok (w : World) (s m n : Nat) (D : MD) (C : ByteArray → Option Ch) (live : Int) (V : ByteArray → List Ver) {U : Nat → Prop} (hU : ∀ k, U k → k < w.heap.size) (key : ByteArray) (st : Int) (A : Option Addr) (nn cc : Nat) (dead : Bool) (bs : List UInt8)
    (hnn : bs.length = nn) (hby : BytesAt w A bs) (hmay : mayI key.size nn st dead = 0) (h : Sto w s m n D C live V U) (hV : ∀ x ∈ V key, x.bs.length ≤ 4096) (hnew : ∀ x ∈ V key, x.st < st) (hfew : (V key).length < 3518437208800) (hn : n < 9223372036854775000)
    (hlive : -4611686018427387904 ≤ live ∧ live ≤ 4611686018427387904) (hkey : key.size ≤ 255) (hbl : nn ≤ 4096) (hst : 0 ≤ st) :
    Calls Try.prog 21 #[.pointer (some ⟨s, 0, none⟩), .agg (verC key st (.slice A nn cc) dead)] w (ApplyPost s m n C live V U key ⟨st, bs, dead⟩ w) := by
  have HM := fun u => Lib.hid (may_is key st A nn cc dead u)
  have HUU := Lib.hid hU
  have HMAY := Lib.hid hmay
  have B3 := Blk.new w 27 (verC key st (.slice A nn cc) dead)
  have HO := Lib.hid ((Only.refl NoneOf w).alloc (.cells (verC key st (.slice A nn cc) dead) 27))
  have hkl : key.size ≤ maxLen := by unfold maxLen; omega
  have HS := Lib.hid h
  have HBY := Lib.hid hby
  have hb3 := B3.lt
  clear hmay
  go_enter Try.func21, Try.ntmps21
  go_wp2_with (refine wpList_load_row rfl 27 (.tmp 3) rfl w.heap.size rfl 27 _ (0, 0) _ B3 Try.underlying27 rfl info27 ?_)
  refine (HM _).out.mono ?_; rintro e w1 ⟨rfl, ho1⟩
  rw [HMAY.out]
  have HO1 := Lib.hid (HO.out.trans ho1)
  have E3 := B3.only ho1 (fun h => h)
  have k0 := E3.cellv 0 rfl
  clear ho1 B3 HM HMAY HO
  go_wp2_with fail
  refine (of_is w1 s m n D C live key hkl (HS.out.keep HO1.out).is).mono ?_; rintro e w1 ⟨rfl, rfl⟩
  have hbs : bs.length ≤ 35184372088832 := by omega
  have hw1 := E3.lt
  cases hc : C key
  case' none =>
    have hOp := (Only.refl NoneOf w1).alloc (.cells #[.slice none 0 0] 88)
    obtain ⟨vv, hvv⟩ : ∃ vv, vv = (Value.slice none 0 0) := ⟨_, rfl⟩
    obtain ⟨ls, hls⟩ : ∃ ls : List Lk, ls = [] := ⟨_, rfl⟩
    have hch : ChIs (w1.alloc (.cells #[.slice none 0 0] 88)) w1.heap.size vv ls := by
      rw [hvv, hls]
      exact ⟨Blk.new w1 88 _, ⟨rfl, .inl ⟨rfl, rfl⟩⟩, fun _ h => (by cases h), ⟨fun _ h => (by cases h), List.Pairwise.nil⟩, Nat.zero_le _⟩
    have HVV := Lib.hid hvv
    have HLS := Lib.hid (show linksOf (C key) = ls by rw [hc, hls]; rfl)
    have HFT := Lib.hid (show ∀ k, Foot w1.heap.size vv k → (∃ c, C key = some c ∧ Foot c.1 c.2.1 k) ∨ w.heap.size < k from fun k hk => by
      rw [hvv] at hk
      rcases hk with rfl | hk
      · exact .inr (by omega)
      · simp [Value.ownBlock] at hk)
    have HCH := Lib.hid hch
    have HOP := Lib.hid (HO1.out.trans hOp)
    have E3' := E3.only hOp (fun h => h)
    have HMU := Lib.hid (show ∀ a ∈ ls, a.stamp < st by rw [hls]; simp)
    have HLF := Lib.hid (show ls.length < 3518437208800 by rw [hls]; decide)
    clear hch hvv hls hOp hc E3
    simp only [chPtr]
    go_wp2_with fail
    refine (weight_is _ s m n D C live V key hkey (HS.out.keep HOP.out) hV).mono ?_; rintro e W ⟨rfl, ho2⟩
    have hCH := HCH.out.keep ho2
    have E3 := E3'.only ho2 (fun h => h)
    have HW := Lib.hid (HOP.out.trans ho2)
    have hpW := hCH.lt
    clear ho2 HCH HOP E3' HO1 k0
    generalize w1.heap.size = p at *
  case' some c =>
    obtain ⟨p, vv, ls⟩ := c
    have hch := (HS.out.keep HO1.out).is.chains key _ hc
    have hfar := fun k hk => HS.out.is.far key _ hc k hk
    have HLS := Lib.hid (show linksOf (C key) = ls by rw [hc]; rfl)
    have HFT := Lib.hid (show ∀ k, Foot p vv k → (∃ c, C key = some c ∧ Foot c.1 c.2.1 k) ∨ w.heap.size < k from fun k hk => .inl ⟨_, hc, hk⟩)
    have HCH := Lib.hid hch
    have HMU := Lib.hid (show ∀ a ∈ ls, a.stamp < st from fun a ha => by
      obtain ⟨i, hi, rfl⟩ := List.getElem_of_mem ha
      have hl := HS.out.len key _ hc
      have hiV : i < (V key).length := by rw [← hl]; exact hi
      have := (HS.out.ver key _ hc i ls[i] (V key)[i] (List.getElem?_eq_getElem hi) (List.getElem?_eq_getElem hiV)).1
      rw [this]
      exact hnew _ (List.getElem_mem hiV))
    have HLF := Lib.hid (show ls.length < 3518437208800 by have := HS.out.len key _ hc; simp only at this; omega)
    have HVV := Lib.hid (show True from trivial)
    clear hch hfar hc
    simp only [chPtr]
    go_wp2_with fail
    refine (weight_is _ s m n D C live V key hkey (HS.out.keep HO1.out) hV).mono ?_; rintro e W ⟨rfl, ho2⟩
    have hCH := HCH.out.keep ho2
    have E3' := E3.only ho2 (fun h => h)
    have HW := Lib.hid (HO1.out.trans ho2)
    have hpW := hCH.lt
    clear ho2 HCH HO1 k0 E3
    have E3 := E3'
    clear E3'
  all_goals
    have HE3 := Lib.hid E3
    have HCHW := Lib.hid hCH
    go_upto_region 10 with (fail)
    refine wp_region_head 9 70 (ApT p w.heap.size st A nn cc dead bs W.heap.size) (fun _ => false) rfl (by kernel_rfl) (by kernel_rfl) (ApT_keep _ _ _ _ _ _ _ _ _) (fun _ _ _ h => by cases h) ?_ ?_
    · intro i o hi ho a u hu hs ht
      have e3 : a.tmps.getD 3 undef = .pointer (some ⟨w.heap.size, 0, none⟩) := hs 3 (of_decide_eq_true (by kernel_rfl))
      have e6 : a.tmps.getD 6 undef = .pointer (some ⟨p, 0, none⟩) := hs 6 (of_decide_eq_true (by kernel_rfl))
      have F3 := HE3.out.only hu (fun h => h)
      have c1 := F3.cellv 1 rfl
      have c2 := F3.cellv 2 rfl
      have c3 := F3.cellv 3 rfl
      have : i = 0 ∨ i = 1 ∨ i = 2 ∨ i = 3 ∨ i = 4 ∨ i = 5 ∨ i = 6 ∨ i = 7 ∨ i = 8 := by omega
      rcases this with rfl | rfl | rfl | rfl | rfl | rfl | rfl | rfl | rfl
      · obtain rfl := Option.some.inj (ho : some _ = some o)
        exact left_value (.pointer (some ⟨p, 0, none⟩)) (by simp [go_sem, e6]) rfl rfl
      · obtain rfl := Option.some.inj (ho : some _ = some o)
        exact left_value (.pointer (some ⟨w.heap.size, 1, none⟩)) (by simp [go_sem, e3]) rfl rfl
      · obtain rfl := Option.some.inj (ho : some _ = some o)
        have s0 : a.tmps.getD 29 undef = .pointer (some ⟨w.heap.size, 1, none⟩) := ht 1 (by omega) (by kernel_rfl)
        exact left_value (.int .i64 st) (by simp [go_sem, s0, c1]) rfl rfl
      · obtain rfl := Option.some.inj (ho : some _ = some o)
        exact left_value (.pointer (some ⟨w.heap.size, 2, none⟩)) (by simp [go_sem, e3]) rfl rfl
      · obtain rfl := Option.some.inj (ho : some _ = some o)
        have s0 : a.tmps.getD 31 undef = .pointer (some ⟨w.heap.size, 2, none⟩) := ht 3 (by omega) (by kernel_rfl)
        exact left_value (.slice A nn cc) (by simp [go_sem, s0, c2]) rfl rfl
      · obtain rfl := Option.some.inj (ho : some _ = some o)
        have s0 : a.tmps.getD 32 undef = .slice A nn cc := ht 4 (by omega) (by kernel_rfl)
        refine left_calls 47 #[.slice A nn cc] (by simp [go_sem, s0]) ((own_is A nn cc bs u hnn (HBY.out.keep (HW.out.trans hu)) (by omega)).mono ?_) rfl
        rintro e u' ⟨v, rfl, hr, ho'⟩
        obtain ⟨A', c', rfl, _⟩ := hr.at
        exact ⟨_, rfl, ⟨A', c', rfl, hr.base hu.size⟩, ho'⟩
      · obtain rfl := Option.some.inj (ho : some _ = some o)
        exact left_value (.pointer (some ⟨w.heap.size, 3, none⟩)) (by simp [go_sem, e3]) rfl rfl
      · obtain rfl := Option.some.inj (ho : some _ = some o)
        have s0 : a.tmps.getD 34 undef = .pointer (some ⟨w.heap.size, 3, none⟩) := ht 6 (by omega) (by kernel_rfl)
        exact left_value (.bool dead) (by simp [go_sem, s0, c3]) rfl rfl
      · obtain rfl := Option.some.inj (ho : some _ = some o)
        have s0 : a.tmps.getD 30 undef = .int .i64 st := ht 2 (by omega) (by kernel_rfl)
        obtain ⟨A', c', s1, hr⟩ : ∃ A' c', a.tmps.getD 33 undef = .slice A' bs.length c' ∧ RowB u W.heap.size (a.tmps.getD 33 undef) bs := ht 5 (by omega) (by kernel_rfl)
        have s2 : a.tmps.getD 35 undef = .bool dead := ht 7 (by omega) (by kernel_rfl)
        rw [s1] at hr
        have t0 : a.tmps[30]?.getD undef = .int .i64 st := by simpa using s0
        have t1 : a.tmps[33]?.getD undef = .slice A' bs.length c' := by simpa using s1
        have t2 : a.tmps[35]?.getD undef = .bool dead := by simpa using s2
        exact left_value (.agg #[.int .i64 st, .slice A' bs.length c', .bool dead]) (by simp [go_sem, t0, t1, t2]) rfl ⟨A', c', rfl, hr⟩
    · intro V' u hu hV' _
      have v0 : V' 0 = .pointer (some ⟨p, 0, none⟩) := hV' 0 (by omega)
      have v1 : V' 1 = .pointer (some ⟨w.heap.size, 1, none⟩) := hV' 1 (by omega)
      have v2 : V' 2 = .int .i64 st := hV' 2 (by omega)
      have v3 : V' 3 = .pointer (some ⟨w.heap.size, 2, none⟩) := hV' 3 (by omega)
      have v4 : V' 4 = .slice A nn cc := hV' 4 (by omega)
      obtain ⟨A5, c5, v5, _⟩ : ∃ A' c', V' 5 = .slice A' bs.length c' ∧ RowB u W.heap.size (V' 5) bs := hV' 5 (by omega)
      have v6 : V' 6 = .pointer (some ⟨w.heap.size, 3, none⟩) := hV' 6 (by omega)
      have v7 : V' 7 = .bool dead := hV' 7 (by omega)
      obtain ⟨A', c', v8, hr⟩ : ∃ A' c', V' 8 = .agg #[.int .i64 st, .slice A' bs.length c', .bool dead] ∧ RowB u W.heap.size (.slice A' bs.length c') bs := hV' 8 (by omega)
      change wpList _ _ _ _ (Act.put (Act.put (Act.put (Act.put (Act.put (Act.put (Act.put (Act.put (Act.put _ (some 28) (V' 0)) (some 29) (V' 1)) (some 30) (V' 2)) (some 31) (V' 3)) (some 32) (V' 4)) (some 33) (V' 5)) (some 34) (V' 6)) (some 35) (V' 7)) (some 36) (V' 8)) _
      rw [v0, v1, v2, v3, v4, v5, v6, v7, v8]
      simp only [Act.put, List.setIfInBounds_toArray, List.set_cons_zero, List.set_cons_succ]
      simp only [List.drop_succ_cons, List.drop_zero]
      have HC2 := Lib.hid (HCHW.out.keep hu)
      have HSu := Lib.hid (HS.out.keep (HW.out.trans hu))
      have hFs : ∀ k, Foot p vv k → k ≠ s ∧ k ≠ m ∧ k ≠ w.heap.size := fun k hk => by
        have h1 := HS.out.is.blk.lt
        have h2 := HS.out.is.map.lt
        rcases HFT.out k hk with ⟨c, hc, hf⟩ | hgt
        · have h3 := (HS.out.is.chains key c hc).foot_lt hf
          have h4 := HS.out.is.far key c hc k hf
          exact ⟨h4.1, h4.2, by omega⟩
        · exact ⟨by omega, by omega, by omega⟩
      have HFS := Lib.hid hFs
      have F3 := Lib.hid (HE3.out.only hu (fun h => h))
      have HRP := Lib.hid hr.place
      have HU := Lib.hid hu
      clear hFs hr hu hV' v0 v1 v2 v3 v4 v5 v6 v7 v8
      go_wp2_with fail
      refine (Cb.add_ok u p vv ls st (A', nn, c') dead HC2.out hst HMU.out HLF.out).mono ?_; rintro e w4 ⟨v', rfl, hA4, ho4, hft4⟩
      have hblk4 := HSu.out.is.blk.only ho4 (fun h => (HFS.out _ h).1 rfl)
      have hown4 := map_only HSu.out.is.map ho4 (fun h => (HFS.out _ h).2.1 rfl)
      have k4 := hblk4.cellv 0 rfl
      have G3 := F3.out.only ho4 (fun h => (HFS.out _ h).2.2 rfl)
      have k0 := G3.cellv 0 rfl
      have HA4 := Lib.hid hA4
      have HO4 := Lib.hid ho4
      have HFT4 := Lib.hid hft4
      have HG3 := Lib.hid G3
      have HB4 := Lib.hid hblk4
      clear hA4 ho4 hft4 G3 hblk4
      have hmn := fun u => (run_eql_map_nil (P := Try.prog) u 81 9 84 (some m) Try.underlying81)
      go_upto_region 15 with (fail)
      refine wp_region_head 7 70 (ConstT fun i => match i with | 0 => .pointer (some ⟨s, 0, none⟩) | 1 => .pointer (some ⟨s, 0, none⟩) | 2 => .pointer (some ⟨s, 0, none⟩) | 3 => .map (some m) | 4 => .pointer (some ⟨w.heap.size, 0, none⟩) | 5 => .string key | _ => .pointer (some ⟨p, 0, none⟩)) (fun _ => false) rfl (by kernel_rfl) (by kernel_rfl) (fun _ _ _ _ h _ => h) (fun _ _ _ h => by cases h) ?_ ?_
      · intro i o hi ho a u' hu hs ht
        have e0 : a.tmps.getD 0 undef = .pointer (some ⟨s, 0, none⟩) := hs 0 (of_decide_eq_true (by kernel_rfl))
        have e3 : a.tmps.getD 3 undef = .pointer (some ⟨w.heap.size, 0, none⟩) := hs 3 (of_decide_eq_true (by kernel_rfl))
        have e6 : a.tmps.getD 6 undef = .pointer (some ⟨p, 0, none⟩) := hs 6 (of_decide_eq_true (by kernel_rfl))
        have c0 := (HG3.out.only hu (fun h => h)).cellv 0 rfl
        have d0 := (HB4.out.only hu (fun h => h)).cellv 0 rfl
        have : i = 0 ∨ i = 1 ∨ i = 2 ∨ i = 3 ∨ i = 4 ∨ i = 5 ∨ i = 6 := by omega
        rcases this with rfl | rfl | rfl | rfl | rfl | rfl | rfl
        · obtain rfl := Option.some.inj (ho : some _ = some o)
          exact left_value (.pointer (some ⟨s, 0, none⟩)) (by simp [go_sem, e0]) rfl rfl
        · obtain rfl := Option.some.inj (ho : some _ = some o)
          have s0 : a.tmps.getD 50 undef = .pointer (some ⟨s, 0, none⟩) := ht 0 (by omega) (by kernel_rfl)
          exact left_value (.pointer (some ⟨s, 0, none⟩)) (by simp [go_sem, s0]) rfl rfl
        · obtain rfl := Option.some.inj (ho : some _ = some o)
          have s0 : a.tmps.getD 51 undef = .pointer (some ⟨s, 0, none⟩) := ht 1 (by omega) (by kernel_rfl)
          exact left_value (.pointer (some ⟨s, 0, none⟩)) (by simp [go_sem, s0]) rfl rfl
        · obtain rfl := Option.some.inj (ho : some _ = some o)
          have s0 : a.tmps.getD 52 undef = .pointer (some ⟨s, 0, none⟩) := ht 2 (by omega) (by kernel_rfl)
          exact left_value (.map (some m)) (by simp [go_sem, s0, d0]) rfl rfl
        · obtain rfl := Option.some.inj (ho : some _ = some o)
          exact left_value (.pointer (some ⟨w.heap.size, 0, none⟩)) (by simp [go_sem, e3]) rfl rfl
        · obtain rfl := Option.some.inj (ho : some _ = some o)
          have s0 : a.tmps.getD 54 undef = .pointer (some ⟨w.heap.size, 0, none⟩) := ht 4 (by omega) (by kernel_rfl)
          exact left_value (.string key) (by simp [go_sem, s0, c0]) rfl rfl
        · obtain rfl := Option.some.inj (ho : some _ = some o)
          exact left_value (.pointer (some ⟨p, 0, none⟩)) (by simp [go_sem, e6]) rfl rfl
      intro V2 u2 hu2 hV2 _
      have v0 : V2 0 = .pointer (some ⟨s, 0, none⟩) := hV2 0 (by omega)
      have v1 : V2 1 = .pointer (some ⟨s, 0, none⟩) := hV2 1 (by omega)
      have v2 : V2 2 = .pointer (some ⟨s, 0, none⟩) := hV2 2 (by omega)
      have v3 : V2 3 = .map (some m) := hV2 3 (by omega)
      have v4 : V2 4 = .pointer (some ⟨w.heap.size, 0, none⟩) := hV2 4 (by omega)
      have v5 : V2 5 = .string key := hV2 5 (by omega)
      have v6 : V2 6 = .pointer (some ⟨p, 0, none⟩) := hV2 6 (by omega)
      change wpList _ _ _ _ (Act.put (Act.put (Act.put (Act.put (Act.put (Act.put (Act.put _ (some 50) (V2 0)) (some 51) (V2 1)) (some 52) (V2 2)) (some 53) (V2 3)) (some 54) (V2 4)) (some 55) (V2 5)) (some 56) (V2 6)) _
      rw [v0, v1, v2, v3, v4, v5, v6]
      simp only [Act.put, List.setIfInBounds_toArray, List.set_cons_zero, List.set_cons_succ]
      simp only [List.drop_succ_cons, List.drop_zero]
      have hown2 := map_only hown4 hu2 (fun h => h)
      refine wpList_mapUpdate_own u2 rfl (.tmp 53) (.tmp 55) (.tmp 56) 81 rfl 9 84 law9 Try.underlying81 RP m n D rfl hown2 (by unfold maxLen; omega) (.string key) (.pointer (some ⟨p, 0, none⟩)) (.string key.data.toList) rfl rfl (Go.WideMaps.keyOf_string_mk Try.underlying9 hkl) (.lit (.int .i64 p)) [] rfl ?_
      intro w5 hown5 hgrow5
      have ho5 := only_grown hgrow5
      -- the new store
      have hS : ∀ k, (k = m ∨ ∃ c, C key = some c ∧ Foot c.1 c.2.1 k) → True := fun _ _ => trivial
      have hsz := HW.out.size
      have hsu := HU.out.size
      have hs4 := HO4.out.size
      have hs2 := hu2.size
      have hmlt := HS.out.is.map.lt
      have hslt := HS.out.is.blk.lt
      have hoa : Only (fun k => k = m ∨ ∃ c, C key = some c ∧ Foot c.1 c.2.1 k) w w5 := by
        refine ((((HW.out.trans HU.out).mono (fun _ _ h => h.elim)).step HO4.out (fun k hk hf => ?_)).step hu2 (fun _ _ h => h.elim)).step ho5 (fun k hk hf => .inl ?_)
        · rcases HFT.out k hf with h | h
          · exact .inr h
          · omega
        · simpa using hf.symm
      have hA5 : ChIs w5 p v' (ls ++ [⟨st, .slice A' nn c', dead⟩]) := (HA4.out.keep hu2).only ho5 (fun k hk hm' => by
        have hm'' : m = k := by simpa using hm'
        subst hm''
        rcases HFT4.out _ hk with h | h
        · exact (HFS.out _ h).2.1 rfl
        · omega)
      have hf5 : ∀ k, Foot p v' k → (∃ c, C key = some c ∧ Foot c.1 c.2.1 k) ∨ w.heap.size ≤ k := fun k hk => by
        rcases HFT4.out k hk with h | h
        · rcases HFT.out k h with h | h
          · exact .inl h
          · exact .inr (by omega)
        · exact .inr (by omega)
      have hx5 : Holds w5 (TerU s m (upd C key (some (p, v', linksOf (C key) ++ [⟨st, .slice A' nn c', dead⟩]))) U) ⟨st, .slice A' nn c', dead⟩ ⟨st, bs, dead⟩ := by
        refine ⟨rfl, rfl, A', c', by rw [hnn], ?_, fun hne g off hA => ?_⟩
        · refine (((HRP.out.1).only HO4.out (fun g off hA hg hf => ?_)).keep hu2).only ho5 (fun g off hA hg hf => ?_)
          · have h1 := (HRP.out.2 g off hA).1
            have h2 := HCHW.out.foot_lt hf
            omega
          · have h1 := (HRP.out.2 g off hA).1
            have h2 : m = g := by simpa using hf
            omega
        · have h1 := HRP.out.2 g off hA
          rintro (ht | hu)
          · rcases ht with rfl | rfl | ⟨k2, c2, hc2, hf⟩
            · omega
            · omega
            · by_cases e : k2 = key
              · rw [e, upd_same] at hc2
                cases hc2
                rcases HFT4.out g hf with h | h
                · have := HCHW.out.foot_lt h
                  omega
                · omega
              · rw [upd_other _ _ e] at hc2
                have := (HS.out.is.chains k2 c2 hc2).foot_lt hf
                omega
          · have := HUU.out g hu
            omega
      have hsto := HS.out.add hoa (by rw [HLS.out]; exact hA5) hf5 hown5 hx5
      have HST := Lib.hid hsto
      have HOA := Lib.hid hoa
      have HF5 := Lib.hid hf5
      have hm3 : m ≠ w.heap.size := by omega
      have G5 := (HG3.out.only hu2 (fun h => h)).only ho5 (fun h => hm3 (by simpa using h))
      have HG5 := Lib.hid G5
      clear hsto hoa hf5 hx5 hA5 hown5 hgrow5 ho5 hown2 hu2 hV2 v0 v1 v2 v3 v4 v5 v6 hS G5 k0 k4 hown4 hmn
      have hwt := weight_is
      have hup : upd V key (V key ++ [⟨st, bs, dead⟩]) key = V key ++ [⟨st, bs, dead⟩] := upd_same _ _ _
      have HWT := Lib.hid (fun u3 (ho : Only NoneOf w5 u3) => weight_is u3 s m (n + 1) _ _ live _ key hkey (HST.out.keep ho) (fun x hx => by
        rw [hup] at hx
        rcases List.mem_append.1 hx with h | h
        · exact hV x h
        · rw [List.mem_singleton.1 h]; show bs.length ≤ 4096; omega))
      rw [hup] at HWT
      have HB5 := Lib.hid HST.out.is.blk
      obtain ⟨W2, hW2⟩ : ∃ x : Int, x = wgt key (V key ++ [⟨st, bs, dead⟩]) := ⟨_, rfl⟩
      obtain ⟨W1, hW1⟩ : ∃ x : Int, x = wgt key (V key) := ⟨_, rfl⟩
      have hwb : ∀ xs : List Ver, (∀ x ∈ xs, x.bs.length ≤ 4096) → 0 ≤ wgt key xs ∧ wgt key xs ≤ 5000 := fun xs hxs => by
        unfold wgt
        cases hg : xs.getLast? with
        | none => simp
        | some x =>
          have := hxs x (List.mem_of_getLast? hg)
          simp only
          split <;> omega
      have b1 := hwb (V key) hV
      have b2 := hwb (V key ++ [⟨st, bs, dead⟩]) (fun x hx => by
        rcases List.mem_append.1 hx with h | h
        · exact hV x h
        · rw [List.mem_singleton.1 h]; show bs.length ≤ 4096; omega)
      rw [← hW1] at b1 ⊢
      rw [← hW2] at b2 HWT
      have HW1 := Lib.hid hW1
      have HW2 := Lib.hid hW2
      have hq1 : IntKind.i64.wrap (W2 - W1) = W2 - W1 := by rw [IntKind.wrap_i64]; omega
      have hq2 : IntKind.i64.wrap (live + (W2 - W1)) = live + (W2 - W1) := by rw [IntKind.wrap_i64]; omega
      clear hW1 hW2 hup hwb hwt
      go_upto_region 16 with (fail)
      refine wp_region_head 11 70 (ConstT fun i => match i with | 0 => .pointer (some ⟨s, 0, none⟩) | 1 => .pointer (some ⟨s, 0, none⟩) | 2 => .pointer (some ⟨s, 1, none⟩) | 3 => .int .i64 live | 4 => .pointer (some ⟨s, 0, none⟩) | 5 => .pointer (some ⟨w.heap.size, 0, none⟩) | 6 => .string key | 7 => .int .i64 W2 | 8 => .int .i64 W1 | 9 => .int .i64 (W2 - W1) | _ => .int .i64 (live + (W2 - W1))) (fun _ => false) rfl (by kernel_rfl) (by kernel_rfl) (fun _ _ _ _ h _ => h) (fun _ _ _ h => by cases h) ?_ ?_
      · intro i o hi ho a u' hu hs ht
        have e0 : a.tmps.getD 0 undef = .pointer (some ⟨s, 0, none⟩) := hs 0 (of_decide_eq_true (by kernel_rfl))
        have e3 : a.tmps.getD 3 undef = .pointer (some ⟨w.heap.size, 0, none⟩) := hs 3 (of_decide_eq_true (by kernel_rfl))
        have e7 : a.tmps.getD 7 undef = .int .i64 W1 := hs 7 (of_decide_eq_true (by kernel_rfl))
        have c0 := (HG5.out.only hu (fun h => h)).cellv 0 rfl
        have d1 := (HB5.out.only hu (fun h => h)).cellv 1 rfl
        have : i = 0 ∨ i = 1 ∨ i = 2 ∨ i = 3 ∨ i = 4 ∨ i = 5 ∨ i = 6 ∨ i = 7 ∨ i = 8 ∨ i = 9 ∨ i = 10 := by omega
        rcases this with rfl | rfl | rfl | rfl | rfl | rfl | rfl | rfl | rfl | rfl | rfl
        · obtain rfl := Option.some.inj (ho : some _ = some o)
          exact left_value (.pointer (some ⟨s, 0, none⟩)) (by simp [go_sem, e0]) rfl rfl
        · obtain rfl := Option.some.inj (ho : some _ = some o)
          have s0 : a.tmps.getD 57 undef = .pointer (some ⟨s, 0, none⟩) := ht 0 (by omega) (by kernel_rfl)
          exact left_value (.pointer (some ⟨s, 0, none⟩)) (by simp [go_sem, s0]) rfl rfl
        · obtain rfl := Option.some.inj (ho : some _ = some o)
          have s0 : a.tmps.getD 58 undef = .pointer (some ⟨s, 0, none⟩) := ht 1 (by omega) (by kernel_rfl)
          exact left_value (.pointer (some ⟨s, 1, none⟩)) (by simp [go_sem, s0]) rfl rfl
        · obtain rfl := Option.some.inj (ho : some _ = some o)
          have s0 : a.tmps.getD 59 undef = .pointer (some ⟨s, 1, none⟩) := ht 2 (by omega) (by kernel_rfl)
          exact left_value (.int .i64 live) (by simp [go_sem, s0, d1]) rfl rfl
        · obtain rfl := Option.some.inj (ho : some _ = some o)
          exact left_value (.pointer (some ⟨s, 0, none⟩)) (by simp [go_sem, e0]) rfl rfl
        · obtain rfl := Option.some.inj (ho : some _ = some o)
          exact left_value (.pointer (some ⟨w.heap.size, 0, none⟩)) (by simp [go_sem, e3]) rfl rfl
        · obtain rfl := Option.some.inj (ho : some _ = some o)
          have s0 : a.tmps.getD 62 undef = .pointer (some ⟨w.heap.size, 0, none⟩) := ht 5 (by omega) (by kernel_rfl)
          exact left_value (.string key) (by simp [go_sem, s0, c0]) rfl rfl
        · obtain rfl := Option.some.inj (ho : some _ = some o)
          have s0 : a.tmps.getD 61 undef = .pointer (some ⟨s, 0, none⟩) := ht 4 (by omega) (by kernel_rfl)
          have s1 : a.tmps.getD 63 undef = .string key := ht 6 (by omega) (by kernel_rfl)
          refine left_calls 45 #[.pointer (some ⟨s, 0, none⟩), .string key] (by simp [go_sem, s0, s1]) ((HWT.out u' hu).mono ?_) rfl
          rintro e u3 ⟨rfl, ho'⟩
          exact ⟨_, rfl, rfl, ho'⟩
        · obtain rfl := Option.some.inj (ho : some _ = some o)
          exact left_value (.int .i64 W1) (by simp [go_sem, e7]) rfl rfl
        · obtain rfl := Option.some.inj (ho : some _ = some o)
          have s0 : a.tmps.getD 64 undef = .int .i64 W2 := ht 7 (by omega) (by kernel_rfl)
          have s1 : a.tmps.getD 65 undef = .int .i64 W1 := ht 8 (by omega) (by kernel_rfl)
          exact left_value (.int .i64 (W2 - W1)) (by simp [go_sem, s0, s1]; exact hq1) rfl rfl
        · obtain rfl := Option.some.inj (ho : some _ = some o)
          have s0 : a.tmps.getD 60 undef = .int .i64 live := ht 3 (by omega) (by kernel_rfl)
          have s1 : a.tmps.getD 66 undef = .int .i64 (W2 - W1) := ht 9 (by omega) (by kernel_rfl)
          exact left_value (.int .i64 (live + (W2 - W1))) (by simp [go_sem, s0, s1]; exact hq2) rfl rfl
      intro V3 u3 hu3 hV3 _
      have v0 : V3 0 = .pointer (some ⟨s, 0, none⟩) := hV3 0 (by omega)
      have v1 : V3 1 = .pointer (some ⟨s, 0, none⟩) := hV3 1 (by omega)
      have v2 : V3 2 = .pointer (some ⟨s, 1, none⟩) := hV3 2 (by omega)
      have v3 : V3 3 = .int .i64 live := hV3 3 (by omega)
      have v4 : V3 4 = .pointer (some ⟨s, 0, none⟩) := hV3 4 (by omega)
      have v5 : V3 5 = .pointer (some ⟨w.heap.size, 0, none⟩) := hV3 5 (by omega)
      have v6 : V3 6 = .string key := hV3 6 (by omega)
      have v7 : V3 7 = .int .i64 W2 := hV3 7 (by omega)
      have v8 : V3 8 = .int .i64 W1 := hV3 8 (by omega)
      have v9 : V3 9 = .int .i64 (W2 - W1) := hV3 9 (by omega)
      have v10 : V3 10 = .int .i64 (live + (W2 - W1)) := hV3 10 (by omega)
      change wpList _ _ _ _ (Act.put (Act.put (Act.put (Act.put (Act.put (Act.put (Act.put (Act.put (Act.put (Act.put (Act.put _ (some 57) (V3 0)) (some 58) (V3 1)) (some 59) (V3 2)) (some 60) (V3 3)) (some 61) (V3 4)) (some 62) (V3 5)) (some 63) (V3 6)) (some 64) (V3 7)) (some 65) (V3 8)) (some 66) (V3 9)) (some 67) (V3 10)) _
      rw [v0, v1, v2, v3, v4, v5, v6, v7, v8, v9, v10]
      simp only [Act.put, List.setIfInBounds_toArray, List.set_cons_zero, List.set_cons_succ]
      simp only [List.drop_succ_cons, List.drop_zero]
      have hB3 := HB5.out.only hu3 (fun h => h)
      have d1 := hB3.cellv 1 rfl
      have f1 := hB3.free 1
      have HFIN := Lib.hid ((HST.out.keep hu3).setLive (live + (W2 - W1)))
      have HSS := Lib.hid HST.out.is.blk.lt
      have HU3 := Lib.hid hu3
      clear hu3 hV3 v0 v1 v2 v3 v4 v5 v6 v7 v8 v9 v10 hB3
      go_wp2_with fail
      go_ret
      refine ⟨rfl, D.put (.string key.data.toList) (.lit (.int .i64 p)), upd C key (some (p, v', linksOf (C key) ++ [⟨st, .slice A' nn c', dead⟩])), ?_, ?_, fun k hk => ?_⟩
      · rw [← HW1.out, ← HW2.out]
        exact HFIN.out
      · refine (((HOA.out.mono (fun k _ hk => ?_)).step HU3.out (fun _ _ h => h.elim)).put (p := ⟨s, 1, none⟩) (.inl (.inl rfl)) _)
        rcases hk with rfl | ⟨c, hc, hf⟩
        · exact .inr (.inl rfl)
        · exact .inr (.inr ⟨key, c, hc, hf⟩)
      · rcases hk with rfl | rfl | ⟨k2, c2, hc2, hf⟩
        · exact .inl (.inl rfl)
        · exact .inl (.inr (.inl rfl))
        · by_cases e : k2 = key
          · rw [e, upd_same] at hc2
            cases hc2
            rcases HF5.out k hf with ⟨c, hc, hf'⟩ | h
            · exact .inl (.inr (.inr ⟨key, c, hc, hf'⟩))
            · exact .inr h
          · rw [upd_other _ _ e] at hc2
            exact .inl (.inr (.inr ⟨k2, c2, hc2, hf⟩))

end Go.Proofs.Ytnonnencdhogiaa

/-
  Layer 14: Len (a range over the map of chains).
-/
namespace Go.Proofs.Ytnonnencdhogiaa
open Go.RowKit
open Go.Maps (Keyed)
open Cb (ChIs Foot)

/-- a key's number, summed over the entries that are left -/
def sumLeft (f : Lit → Nat) (es : List (Lit × MD)) (left : Lit → Bool) : Nat := ((es.filter fun p => left p.1).map fun p => f p.1).sum
theorem sum_none (f : Lit → Nat) (left : Lit → Bool) : ∀ (es : List (Lit × MD)), (∀ kl, left kl = false) → sumLeft f es left = 0
  | [], _ => rfl
  | p :: es, h => by
    have ih := sum_none f left es h
    unfold sumLeft at ih ⊢
    rw [List.filter_cons_of_neg (by rw [h]; simp)]
    exact ih
theorem sum_congr (f : Lit → Nat) {left left' : Lit → Bool} : ∀ (es : List (Lit × MD)), (∀ p ∈ es, left p.1 = left' p.1) → sumLeft f es left = sumLeft f es left'
  | [], _ => rfl
  | p :: es, h => by
    have ih := sum_congr f es (fun q hq => h q (by simp [hq]))
    have h0 := h p (by simp)
    unfold sumLeft at ih ⊢
    cases hl : left p.1
    · rw [List.filter_cons_of_neg (by rw [hl]; simp), List.filter_cons_of_neg (by rw [← h0, hl]; simp)]
      exact ih
    · rw [List.filter_cons_of_pos (by rw [hl]), List.filter_cons_of_pos (by rw [← h0, hl])]
      simp only [List.map_cons, List.sum_cons]
      rw [ih]
theorem sum_strike (f : Lit → Nat) (left : Lit → Bool) (kl : Lit) (hk : WideAt.IsKeyLit kl) (hl : left kl = true) : ∀ (es : List (Lit × MD)), es.Pairwise (fun p q => p.1 ≠ q.1) → (∃ p ∈ es, p.1 = kl) →
    sumLeft f es left = f kl + sumLeft f es (fun z => left z && !z.sameKey kl)
  | [], _, h => by obtain ⟨p, hp, _⟩ := h; cases hp
  | p :: es, hpw, h => by
    obtain ⟨h1, h2⟩ := List.pairwise_cons.1 hpw
    by_cases e : p.1 = kl
    · have hc := sum_congr f (left := left) (left' := fun z => left z && !z.sameKey kl) es (fun q hq => by
        have hne : q.1 ≠ kl := fun e' => h1 q hq (e.trans e'.symm)
        have : q.1.sameKey kl = false := by
          cases hs : q.1.sameKey kl
          · rfl
          · exact absurd (WideAt.sameKey_eq hs) hne
        rw [this]
        simp)
      unfold sumLeft at hc ⊢
      rw [List.filter_cons_of_pos (by rw [e, hl]), List.filter_cons_of_neg (by rw [e]; simp [WideAt.sameKey_self hk]), ← hc]
      simp [e]
    · have ih := sum_strike f left kl hk hl es h2 (by
        obtain ⟨q, hq, hqk⟩ := h
        rcases List.mem_cons.1 hq with rfl | hq
        · exact absurd hqk e
        · exact ⟨q, hq, hqk⟩)
      have hs : p.1.sameKey kl = false := by
        cases hs : p.1.sameKey kl
        · rfl
        · exact absurd (WideAt.sameKey_eq hs) e
      unfold sumLeft at ih ⊢
      cases hlp : left p.1
      · rw [List.filter_cons_of_neg (by simp [hlp]), List.filter_cons_of_neg (by simp [hlp])]
        exact ih
      · rw [List.filter_cons_of_pos (by simp [hlp]), List.filter_cons_of_pos (by simp [hlp, hs])]
        simp only [List.map_cons, List.sum_cons]
        rw [ih]
        exact Nat.add_left_comm _ _ _

/-- how many versions a key has -/
def lensOf (V : ByteArray → List Ver) : Lit → Nat
  | .string bs => (V ⟨bs.toArray⟩).length
  | _ => 0

theorem at_entry {es : List (Lit × MD)} {kl : Lit} {y : MD} (h : ∀ zd, DataW.atKey (.map es) kl zd = y) : ∃ p ∈ es, p.1 = kl := by
  cases hh : Go.Maps.has (.map es : MD) kl with
  | true =>
    obtain ⟨p, hp, hk⟩ := List.any_eq_true.1 hh
    exact ⟨p, hp, WideAt.sameKey_eq hk⟩
  | false =>
    have h1 := h .nil
    have h2 := h (.lit (.bool true))
    rw [Go.Maps.atKey_of_not_has hh] at h1 h2
    rw [← h1] at h2
    cases h2

def ptrV : Option Nat → Value
  | none => .pointer none
  | some p => .pointer (some ⟨p, 0, none⟩)
theorem RP_inv (v : Value) (y : MD × List MemPlace) (h : RP v = some y) : ∃ c, v = ptrV c := by
  unfold RP at h
  split at h
  · exact ⟨none, rfl⟩
  · rename_i p
    exact ⟨some p, rfl⟩
  · cases h
theorem key_inv (key : Value) (kl : Lit) (h : keyOf Try.prog 9 key = some kl) : ∃ x : ByteArray, key = .string x := by
  cases key <;> simp [keyOf, mapKey, Try.underlying9] at h
  exact ⟨_, rfl⟩

theorem key_lit (x : ByteArray) (kl : Lit) (h : keyOf Try.prog 9 (.string x) = some kl) : kl = .string x.data.toList ∧ x.size ≤ maxLen := by
  simp [keyOf, mapKey, Try.underlying9] at h
  exact ⟨h.2.symm, h.1⟩

def LenRel (W : World) (m n : Nat) (D : MD) (es : List (Lit × MD)) (f : Lit → Nat) (total : Nat) (v : Value) (wr : World) : Prop :=
  ∃ (left : Lit → Bool) (cnt acc : Nat), wr.ranges Try.prog 9 RP m W.heap.size n D left cnt ∧ v = .int .i64 acc ∧ acc + sumLeft f es left = total ∧ Only NoneOf W wr ∧ W.heap.size < wr.heap.size

set_option maxRecDepth 100000 in
set_option maxHeartbeats 1000000 in
theorem len_is (w : World) (s m n : Nat) (D : MD) (C : ByteArray → Option Ch) (live : Int) (V : ByteArray → List Ver) {U : Nat → Prop} (es : List (Lit × MD)) (h : Sto w s m n D C live V U) (hD : D = .map es) (hes : es.Pairwise fun p q => p.1 ≠ q.1)
    (hsum : sumLeft (lensOf V) es (fun _ => true) ≤ 9223372036854775807) :
    Calls Try.prog 19 #[.pointer (some ⟨s, 0, none⟩)] w fun e w' => e = .returned (.tuple #[.int .i64 (es.length : Nat), .int .i64 (sumLeft (lensOf V) es (fun _ => true) : Nat)]) ∧ Only NoneOf w w' := by
  have c0 := h.is.blk.cellv 0 rfl
  have HS := Lib.hid h
  have hown := h.is.map
  obtain ⟨total, htot⟩ : ∃ t, t = sumLeft (lensOf V) es (fun _ => true) := ⟨_, rfl⟩
  rw [← htot] at hsum ⊢
  have HT := Lib.hid htot
  clear h htot
  go_enter Try.func19, Try.ntmps19
  go_wp2_with (first | (refine wpList_range_own _ rfl (.tmp 12) 81 rfl 9 84 law9 Try.underlying81 RP m n D rfl hown ?_; intro w0 hrg0 hg0 hs0) | fail)
  go_frame
  have HG0 := Lib.hid (only_grown hg0)
  have hrs := hs0
  go_loopw [4] (fun v wr => LenRel w m n D es (lensOf V) total v wr) (fun _ wr => wr.rangeLeft m w.heap.size)
  case atStart =>
    refine ⟨_, _, 0, hrg0, rfl, ?_, HG0.out.mono (fun _ _ h => by cases h), by omega⟩
    rw [HT.out, Nat.zero_add]
    refine sum_congr _ _ (fun p hp => ?_)
    rw [hD, Go.Maps.has_eq]
    have hk : WideAt.IsKeyLit p.1 := by
      obtain ⟨es', hD', _, hk⟩ := hown.entries law9
      rw [hD] at hD'
      cases hD'
      exact hk p hp
    exact List.any_eq_true.2 ⟨p, hp, WideAt.sameKey_self hk⟩
  case round =>
    clear hrg0 hg0 hs0
    obtain ⟨left, cnt, acc, hrg, rfl, hacc, ho, hlr⟩ := hrel
    have HO := Lib.hid ho
    have HACC := Lib.hid hacc
    clear ho hacc
    go_wp2_with (first | (refine wpList_next_ranges _ rfl (.tmp 13) rfl 9 law9 RP Value.string ptrV key_inv RP_inv m w.heap.size n D left cnt rfl hrg ?_ ?_) | fail)
    · intro hc0 hl0
      have hb := (HS.out.is.blk.only HO.out (fun h => h)).cellv 0 rfl
      have hownr := map_only HS.out.is.map HO.out (fun h => h)
      have hz := HACC.out
      rw [sum_none _ _ _ hl0, Nat.add_zero] at hz
      subst hz
      go_wp2_with (first | (refine wpList_len_own _ rfl (.tmp 25) 81 rfl 9 84 Try.underlying81 RP m n D rfl hownr ?_) | fail)
      go_ret2
      exact ⟨rfl, HO.out⟩
    · intro x c kl y ps w1 cnt1 hkx hlx hvc hat hrg1 hlt hg1 hs1 hen
      obtain ⟨hkl, hxl⟩ := key_lit x kl hkx
      subst hkl
      have hat' : ∀ zd, D.atKey (.string x.data.toList) zd = y := fun zd => by rw [hD]; exact hat zd
      have hk0 := fun zd => (HS.out.is.keys x zd hxl).symm.trans (hat' zd)
      obtain ⟨ch, hch⟩ : ∃ ch, C x = some ch := by
        cases hc : C x with
        | some ch => exact ⟨ch, rfl⟩
        | none =>
          rw [hc] at hk0
          have h1 := hk0 .nil
          have h2 := hk0 (.lit (.bool true))
          simp only at h1 h2
          rw [← h1] at h2
          cases h2
      have hy : y = .lit (.int .i64 ch.1) := by
        have := hk0 .nil
        rw [hch] at this
        exact this.symm
      have hpv : ptrV c = .pointer (some ⟨ch.1, 0, none⟩) := RP_at (ps := ps) (by rw [hvc, ← hy])
      have hent : ∃ p ∈ es, p.1 = .string x.data.toList := at_entry (y := y) hat
      have hst := sum_strike (lensOf V) left (.string x.data.toList) trivial hlx es hes hent
      have hlv : lensOf V (.string x.data.toList) = ch.2.2.length := by
        rw [HS.out.len x ch hch]
        rfl
      rw [hlv] at hst
      have ho1 : Only NoneOf w w1 := HO.out.step (only_grown hg1) (fun k hk h => by
        have : w.heap.size = k := by simpa using h
        omega)
      have hchain := (HS.out.is.chains x ch hch).keep ho1
      have HLEN := Lib.hid (Cb.len_has w1 ch.1 ch.2.1 ch.2.2 ch.2.2.length hchain rfl)
      have HO1 := Lib.hid ho1
      have HRG := Lib.hid hrg1
      have HRG0 := Lib.hid hrg
      have hacc := HACC.out
      have HST := Lib.hid (show acc + ch.2.2.length + sumLeft (lensOf V) es (fun z => left z && !z.sameKey (.string x.data.toList)) = total by omega)
      have hbig : acc + ch.2.2.length ≤ 9223372036854775807 := by omega
      rw [hpv] at hen ⊢
      clear hk0 hat' hy hpv hent hst hlv ho1 hchain hrg1 hrg hat hvc hkx hacc
      generalize ch.2.2.length = nl at *
      go_wp2_with fail
      refine HLEN.out.mono ?_; rintro e w2 ⟨rfl, rfl⟩
      go_wp2_with fail
      go_roundw
      case rel => exact ⟨_, cnt1, acc + nl, by rw [hD]; exact HRG.out, by go_num, HST.out, HO1.out, by omega⟩
      case measure => rw [HRG.out.left_eq, HRG0.out.left_eq]; exact hlt

end Go.Proofs.Ytnonnencdhogiaa

/-
  Layer 14: a store with one chain's older versions gone.
-/
namespace Go.Proofs.Ytnonnencdhogiaa
open Go.RowKit
open Cb (ChIs Foot pruned)

/-- what stays of a key's versions at a horizon -/
def keptV (xs : List Ver) (hz : Int) : List Ver := xs.drop ((xs.takeWhile fun x => decide (x.st ≤ hz)).length - 1)

theorem Sto.prune {W w : World} {s m n : Nat} {D : MD} {C : ByteArray → Option Ch} {live : Int} {V : ByteArray → List Ver} {U : Nat → Prop} {key : ByteArray} {c : Ch} {v' : Value} {hz : Int}
    (h : Sto W s m n D C live V U) (hc : C key = some c) (ho : Only (Foot c.1 c.2.1) W w) (hA : ChIs w c.1 v' (pruned c.2.2 hz)) (hfoot : ∀ k, Foot c.1 v' k → Foot c.1 c.2.1 k ∨ W.heap.size ≤ k) :
    Sto w s m n D (upd C key (some (c.1, v', pruned c.2.2 hz))) live (upd V key (keptV (V key) hz)) U := by
  have hsF := h.is.far key c hc
  have hslt := h.is.blk.lt
  have hmlt := h.is.map.lt
  have hlen := h.len key c hc
  have hcnt := cnt_ver c.2.2 (V key) hz hlen (fun i l x h1 h2 => (h.ver key c hc i l x h1 h2).1)
  have hle := cnt_le c.2.2 hz
  have hpos : 0 < (V key).length := List.length_pos_iff.2 (h.has key c hc)
  have hfar : ∀ k, Foot c.1 v' k → k ≠ s ∧ k ≠ m := fun k hk => by
    rcases hfoot k hk with hf | hk
    · exact hsF k hf
    · exact ⟨by omega, by omega⟩
  have hoth : ∀ k2 c2, k2 ≠ key → C k2 = some c2 → ∀ k, Foot c2.1 c2.2.1 k → ¬ Foot c.1 c.2.1 k := fun k2 c2 hne hc2 k hk hf => h.is.apart key k2 c c2 hc hc2 (Ne.symm hne) k hf hk
  have happ : ∀ k2 c2, k2 ≠ key → C k2 = some c2 → ∀ k, Foot c.1 v' k → ¬ Foot c2.1 c2.2.1 k := fun k2 c2 hne hc2 k hk h2 => by
    rcases hfoot k hk with hf | hge
    · exact h.is.apart key k2 c c2 hc hc2 (Ne.symm hne) k hf h2
    · have := (h.is.chains k2 c2 hc2).foot_lt h2
      omega
  have hT : ∀ g, g < W.heap.size → ¬ TerU s m C U g → ¬ TerU s m (upd C key (some (c.1, v', pruned c.2.2 hz))) U g := fun g hg hn' ht => by
    have hn : ¬ Ter s m C g := fun h => hn' (.inl h)
    rcases ht with (rfl | rfl | ⟨k2, c2, hc2, hf⟩) | hu
    case inr => exact hn' (.inr hu)
    · exact hn (.inl rfl)
    · exact hn (.inr (.inl rfl))
    · by_cases e : k2 = key
      · rw [e, upd_same] at hc2
        cases hc2
        rcases hfoot g hf with hf' | hge
        · exact hn (.inr (.inr ⟨key, c, hc, hf'⟩))
        · omega
      · rw [upd_other _ _ e] at hc2
        exact hn (.inr (.inr ⟨k2, c2, hc2, hf⟩))
  have hS : ∀ g, g < W.heap.size → ¬ TerU s m C U g → ¬ Foot c.1 c.2.1 g := fun g _ hn hf => hn (.inl (.inr (.inr ⟨key, c, hc, hf⟩)))
  refine ⟨⟨h.is.blk.only ho (fun hf => (hsF _ hf).1 rfl), map_only h.is.map ho (fun hf => (hsF _ hf).2 rfl), fun k zd hk => ?_, fun k c2 hc2 => ?_, fun k k2 c1 c2 hc1 hc2 hne f hf hf2 => ?_, fun k c2 hc2 f hf => ?_, h.is.sm⟩, fun k c2 hc2 => ?_, fun k c2 hc2 i l2 x2 hl2 hx2 => ?_, fun k hc2 => ?_, fun k c2 hc2 => ?_⟩
  · have := h.is.keys k zd hk
    by_cases e : k = key
    · rw [e] at this ⊢
      rw [this, hc, upd_same]
    · rw [upd_other _ _ e]
      exact this
  · by_cases e : k = key
    · rw [e, upd_same] at hc2
      cases hc2
      exact hA
    · rw [upd_other _ _ e] at hc2
      exact (h.is.chains k c2 hc2).only ho (hoth k c2 e hc2)
  · by_cases e : k = key
    · by_cases e2 : k2 = key
      · exact hne (e.trans e2.symm)
      · rw [e, upd_same] at hc1
        rw [upd_other _ _ e2] at hc2
        cases hc1
        exact happ k2 c2 e2 hc2 f hf hf2
    · rw [upd_other _ _ e] at hc1
      by_cases e2 : k2 = key
      · rw [e2, upd_same] at hc2
        cases hc2
        exact happ k c1 e hc1 f hf2 hf
      · rw [upd_other _ _ e2] at hc2
        exact h.is.apart k k2 c1 c2 hc1 hc2 hne f hf hf2
  · by_cases e : k = key
    · rw [e, upd_same] at hc2
      cases hc2
      exact hfar f hf
    · rw [upd_other _ _ e] at hc2
      exact h.is.far k c2 hc2 f hf
  · by_cases e : k = key
    · rw [e, upd_same] at hc2
      cases hc2
      rw [e, upd_same]
      show (pruned c.2.2 hz).length = (keptV (V key) hz).length
      unfold pruned keptV
      rw [List.length_drop, List.length_drop, hlen, hcnt]
    · rw [upd_other _ _ e] at hc2 ⊢
      exact h.len k c2 hc2
  · by_cases e : k = key
    · rw [e, upd_same] at hc2
      cases hc2
      rw [e, upd_same] at hx2
      have hl2' : (pruned c.2.2 hz)[i]? = some l2 := hl2
      unfold pruned at hl2'
      unfold keptV at hx2
      rw [List.getElem?_drop, hcnt] at hl2'
      rw [List.getElem?_drop] at hx2
      exact (h.ver key c hc _ l2 x2 hl2' hx2).turn ho hS hT
    · rw [upd_other _ _ e] at hc2 hx2
      exact (h.ver k c2 hc2 i l2 x2 hl2 hx2).turn ho hS hT
  · by_cases e : k = key
    · rw [e, upd_same] at hc2
      cases hc2
    · rw [upd_other _ _ e] at hc2 ⊢
      exact h.nov k hc2
  · by_cases e : k = key
    · rw [e, upd_same]
      unfold keptV
      intro he
      have := congrArg List.length he
      rw [List.length_drop] at this
      rw [hcnt, hlen] at hle
      simp at this
      omega
    · rw [upd_other _ _ e] at hc2 ⊢
      exact h.has k c2 hc2

/-- Prune of a chain that is there -/
theorem prune_is (w : World) (p : Nat) (v : Value) (ls : List Lk) (hz : Int) (h : ChIs w p v ls) : Calls Try.prog 42 #[.pointer (some ⟨p, 0, none⟩), .int .i64 hz] w (Cb.PrunePost p v ls hz w) := by
  by_cases hc : cnt ls hz ≤ 1
  · exact Cb.prune_few w p v ls hz h hc
  · exact Cb.prune_many w p v ls hz (cnt ls hz - 2) h (by omega)

end Go.Proofs.Ytnonnencdhogiaa

/-
  Layer 14: Vacuum (a range over the map, a chain pruned in each round).
-/
namespace Go.Proofs.Ytnonnencdhogiaa
open Go.RowKit
open Go.Maps (Keyed)
open Cb (ChIs Foot pruned)

theorem ranges_only {w w' : World} {S : Nat → Prop} {m r n cnt : Nat} {D : MD} {left : Lit → Bool} (h : w.ranges Try.prog 9 RP m r n D left cnt) (ho : Only S w w') (hm : ¬ S m) (hr : ¬ S r) : w'.ranges Try.prog 9 RP m r n D left cnt := by
  have h1 := h.owns.lt
  have h2 := h.lt
  obtain ⟨es, clock, since, seen, c0, hb, F, hs, hD, hi, rest⟩ := h
  exact ⟨es, clock, since, seen, c0, (ho.block m h1 hm).trans hb, F, hs, hD, (ho.block r h2 hr).trans hi, rest⟩

theorem ranges_iter {w : World} {m r n cnt : Nat} {D : MD} {left : Lit → Bool} (h : w.ranges Try.prog 9 RP m r n D left cnt) (o : Nat) : w.cell? ⟨r, o, none⟩ = none := by
  obtain ⟨es, clock, since, seen, c0, _, _, _, _, hi, _⟩ := h
  simp [World.cell?, hi]
theorem Sto.iter {w w1 : World} {s m n r : Nat} {D : MD} {C : ByteArray → Option Ch} {live : Int} {V : ByteArray → List Ver} {U : Nat → Prop} (h : Sto w s m n D C live V U) (ho : Only (fun k => some r = some k) w w1) (hr : ¬ Ter s m C r) (hi : ∀ o, w.cell? ⟨r, o, none⟩ = none) : Sto w1 s m n D C live V U := by
  have hne : ∀ k, Ter s m C k → ¬ (some r = some k) := fun k hk e => hr (by cases e; exact hk)
  refine ⟨⟨h.is.blk.only ho (hne s (.inl rfl)), map_only h.is.map ho (hne m (.inr (.inl rfl))), h.is.keys, fun key c hc => (h.is.chains key c hc).only ho (fun k hk => hne k (.inr (.inr ⟨key, c, hc, hk⟩))), h.is.apart, h.is.far, h.is.sm⟩,
    h.len, fun key c hc i l x hl hx => ?_, h.nov, h.has⟩
  obtain ⟨h1, h2, A, cp, hval, hby, hap⟩ := h.ver key c hc i l x hl hx
  refine ⟨h1, h2, A, cp, hval, fun j b hb => ?_, hap⟩
  obtain ⟨g, off, hA, hg, hcell⟩ := hby j b hb
  refine ⟨g, off, hA, Nat.lt_of_lt_of_le hg ho.size, (ho.cell (p := ⟨g, off + j, none⟩) hg (fun e => ?_)).trans hcell⟩
  have e' : r = g := by simpa using e
  subst e'
  rw [hi] at hcell
  cases hcell

/-- how many versions of a key go -/
def goneOf (V : ByteArray → List Ver) (hz : Int) : Lit → Nat
  | .string bs => ((V ⟨bs.toArray⟩).takeWhile fun x => decide (x.st ≤ hz)).length - 1
  | _ => 0

def VacRel (w : World) (s m n : Nat) (D : MD) (es : List (Lit × MD)) (C : ByteArray → Option Ch) (live : Int) (V : ByteArray → List Ver) (U : Nat → Prop) (hz : Int) (total : Nat) (v : Value) (wr : World) : Prop :=
  ∃ (left : Lit → Bool) (cnt acc : Nat) (C' : ByteArray → Option Ch) (V' : ByteArray → List Ver), wr.ranges Try.prog 9 RP m w.heap.size n D left cnt ∧ v = .int .i64 acc ∧ acc + sumLeft (goneOf V hz) es left = total ∧ Sto wr s m n D C' live V' U ∧
    (∀ key : ByteArray, key.size ≤ maxLen → V' key = if left (.string key.data.toList) then V key else keptV (V key) hz) ∧ (∀ key : ByteArray, ¬ key.size ≤ maxLen → V' key = V key) ∧ Only (Ter s m C) w wr ∧ (∀ k, Ter s m C' k → Ter s m C k ∨ w.heap.size < k) ∧ w.heap.size < wr.heap.size

def VacPost (s m n : Nat) (D : MD) (C : ByteArray → Option Ch) (live : Int) (V : ByteArray → List Ver) (U : Nat → Prop) (hz : Int) (total : Nat) (w : World) (e : Ending) (w' : World) : Prop :=
  e = .returned (.int .i64 total) ∧ ∃ C' V', Sto w' s m n D C' live V' U ∧ (∀ key : ByteArray, key.size ≤ maxLen → V' key = keptV (V key) hz) ∧ (∀ key : ByteArray, ¬ key.size ≤ maxLen → V' key = V key) ∧ Only (Ter s m C) w w' ∧ ∀ k, Ter s m C' k → Ter s m C k ∨ w.heap.size ≤ k

set_option maxRecDepth 100000 in
set_option maxHeartbeats 1000000 in
theorem vacuum_is (w : World) (s m n : Nat) (D : MD) (C : ByteArray → Option Ch) (live : Int) (V : ByteArray → List Ver) {U : Nat → Prop} (hz : Int) (es : List (Lit × MD)) (h : Sto w s m n D C live V U) (hD : D = .map es) (hes : es.Pairwise fun p q => p.1 ≠ q.1)
    (hsum : sumLeft (goneOf V hz) es (fun _ => true) ≤ 9223372036854775807) :
    Calls Try.prog 20 #[.pointer (some ⟨s, 0, none⟩), .int .i64 hz] w (VacPost s m n D C live V U hz (sumLeft (goneOf V hz) es (fun _ => true)) w) := by
  have c0 := h.is.blk.cellv 0 rfl
  have HS := Lib.hid h
  have hown := h.is.map
  obtain ⟨total, htot⟩ : ∃ t, t = sumLeft (goneOf V hz) es (fun _ => true) := ⟨_, rfl⟩
  rw [← htot] at hsum ⊢
  have HT := Lib.hid htot
  clear h htot
  go_enter Try.func20, Try.ntmps20
  go_wp2_with (first | (refine wpList_range_own _ rfl (.tmp 13) 81 rfl 9 84 law9 Try.underlying81 RP m n D rfl hown ?_; intro w0 hrg0 hg0 hs0) | fail)
  go_frame
  have HG0 := Lib.hid ((only_grown hg0).mono (S' := NoneOf) (fun _ _ h => by cases h))
  go_loopw [5] (fun v wr => VacRel w s m n D es C live V U hz total v wr) (fun _ wr => wr.rangeLeft m w.heap.size)
  case atStart =>
    refine ⟨_, _, 0, C, V, hrg0, rfl, ?_, HS.out.keep HG0.out, fun key hk => ?_, fun _ _ => rfl, HG0.out.mono (fun _ _ h => h.elim), fun k hk => .inl hk, by omega⟩
    · rw [HT.out, Nat.zero_add]
      refine sum_congr _ _ (fun p hp => ?_)
      rw [hD, Go.Maps.has_eq]
      have hk : WideAt.IsKeyLit p.1 := by
        obtain ⟨es', hD', _, hk⟩ := hown.entries law9
        rw [hD] at hD'
        cases hD'
        exact hk p hp
      exact List.any_eq_true.2 ⟨p, hp, WideAt.sameKey_self hk⟩
    · cases hh : Go.Maps.has D (.string key.data.toList) with
      | true => simp
      | false =>
        have h1 := HS.out.is.keys key .nil hk
        have h2 := HS.out.is.keys key (.lit (.bool true)) hk
        rw [Go.Maps.atKey_of_not_has hh] at h1 h2
        cases hc : C key with
        | none => rw [HS.out.nov key hc]; simp [keptV]
        | some c => rw [hc] at h1; cases h1
  case round =>
    clear hrg0 hg0 hs0 hown c0
    obtain ⟨left, cnt, acc, C', V', hrg, rfl, hacc, hsto, hV', hVb, ho, hter, hlr⟩ := hrel
    have HVB := Lib.hid hVb
    have HO := Lib.hid ho
    have HACC := Lib.hid hacc
    have HST := Lib.hid hsto
    have HV := Lib.hid hV'
    have HTER := Lib.hid hter
    clear ho hacc hsto hV' hter hVb
    go_wp2_with (first | (refine wpList_next_ranges _ rfl (.tmp 14) rfl 9 law9 RP Value.string ptrV key_inv RP_inv m w.heap.size n D left cnt rfl hrg ?_ ?_) | fail)
    · intro hc0 hl0
      have hz' := HACC.out
      rw [sum_none _ _ _ hl0, Nat.add_zero] at hz'
      subst hz'
      go_wp2_with fail
      go_ret
      refine ⟨rfl, C', V', HST.out, fun key hk => ?_, HVB.out, HO.out, fun k hk => ?_⟩
      · rw [HV.out key hk, hl0]
        rfl
      · rcases HTER.out k hk with h | h
        · exact .inl h
        · exact .inr (by omega)
    · intro x c kl y ps w1 cnt1 hkx hlx hvc hat hrg1 hlt hg1 hs1 hen
      obtain ⟨hkl, hxl⟩ := key_lit x kl hkx
      subst hkl
      have hat' : ∀ zd, D.atKey (.string x.data.toList) zd = y := fun zd => by rw [hD]; exact hat zd
      have hk0 := fun zd => (HST.out.is.keys x zd hxl).symm.trans (hat' zd)
      obtain ⟨ch, hch⟩ : ∃ ch, C' x = some ch := by
        cases hc : C' x with
        | some ch => exact ⟨ch, rfl⟩
        | none =>
          rw [hc] at hk0
          have h1 := hk0 .nil
          have h2 := hk0 (.lit (.bool true))
          simp only at h1 h2
          rw [← h1] at h2
          cases h2
      have hy : y = .lit (.int .i64 ch.1) := by
        have := hk0 .nil
        rw [hch] at this
        exact this.symm
      have hpv : ptrV c = .pointer (some ⟨ch.1, 0, none⟩) := RP_at (ps := ps) (by rw [hvc, ← hy])
      have hent : ∃ p ∈ es, p.1 = .string x.data.toList := at_entry (y := y) hat
      have hst := sum_strike (goneOf V hz) left (.string x.data.toList) trivial hlx es hes hent
      have hVx : V' x = V x := by rw [HV.out x hxl, hlx]; rfl
      have hcn := cnt_ver ch.2.2 (V' x) hz (HST.out.len x ch hch) (fun i l z h1 h2 => (HST.out.ver x ch hch i l z h1 h2).1)
      have hgo : goneOf V hz (.string x.data.toList) = Go.Proofs.Ytnonnencdhogiaa.cnt ch.2.2 hz - 1 := by
        show ((V x).takeWhile fun z => decide (z.st ≤ hz)).length - 1 = _
        rw [← hVx, ← hcn]
      have hnr : ¬ Ter s m C' w.heap.size := fun ht => by
        rcases HTER.out _ ht with h | h
        · have := HS.out.is.ter_lt h
          omega
        · omega
      have hg1' := only_grown hg1
      have hsto1 := HST.out.iter hg1' hnr (ranges_iter hrg)
      have hchain := hsto1.is.chains x ch hch
      have HP := Lib.hid (prune_is w1 ch.1 ch.2.1 ch.2.2 hz hchain)
      have HST1 := Lib.hid hsto1
      have HRG1 := Lib.hid hrg1
      have HRG0 := Lib.hid hrg
      have HG1 := Lib.hid hg1'
      have hs1' := hg1'.size
      rw [hgo] at hst
      have hacc := HACC.out
      have HSUM := Lib.hid (show acc + (Go.Proofs.Ytnonnencdhogiaa.cnt ch.2.2 hz - 1) + sumLeft (goneOf V hz) es (fun z => left z && !z.sameKey (.string x.data.toList)) = total by omega)
      have hbig : acc + (Go.Proofs.Ytnonnencdhogiaa.cnt ch.2.2 hz - 1) ≤ 9223372036854775807 := by omega
      have HVX := Lib.hid hVx
      have HCH := Lib.hid hch
      rw [hpv] at hen ⊢
      clear hk0 hat' hy hpv hent hst hVx hcn hgo hsto1 hchain hrg1 hrg hat hvc hkx hacc hg1' hch
      generalize hgn : Go.Proofs.Ytnonnencdhogiaa.cnt ch.2.2 hz - 1 = ng at *
      go_wp2_with fail
      refine HP.out.mono ?_; rintro e w2 ⟨v', rfl, hA2, ho2, hft2⟩
      rw [hgn]
      have hfm : ∀ k, Foot ch.1 ch.2.1 k → k ≠ m ∧ k ≠ w.heap.size := fun k hk => ⟨(HST1.out.is.far x ch HCH.out k hk).2, fun e => hnr (by rw [← e]; exact .inr (.inr ⟨x, ch, HCH.out, hk⟩))⟩
      have HRG2 := Lib.hid (ranges_only HRG1.out ho2 (fun h => (hfm _ h).1 rfl) (fun h => (hfm _ h).2 rfl))
      have HST2 := Lib.hid (HST1.out.prune HCH.out ho2 hA2 hft2)
      have HO2 := Lib.hid ((HO.out.step HG1.out (fun k hk e => absurd (show w.heap.size = k by simpa using e) (by omega))).step ho2 (fun k hk hf => by
        rcases HTER.out k (.inr (.inr ⟨x, ch, HCH.out, hf⟩)) with h | h
        · exact h
        · omega))
      have HFT := Lib.hid hft2
      have hs2 := ho2.size
      clear hA2 ho2 hft2 hfm
      go_wp2_with fail
      go_roundw
      case rel =>
        refine ⟨_, cnt1, acc + ng, _, _, by rw [hD]; exact HRG2.out, by go_num, HSUM.out, HST2.out, fun key hk => ?_, fun key hk => by rw [upd_other _ _ (fun e => hk (by rw [e]; exact hxl))]; exact HVB.out key hk, HO2.out, fun k hk => ?_, by omega⟩
        · by_cases e : key = x
          · rw [e, upd_same, HVX.out]
            have hself : (Lit.string x.data.toList).sameKey (.string x.data.toList) = true := WideAt.sameKey_self (show WideAt.IsKeyLit (.string x.data.toList) from trivial)
            rw [hself]
            simp
          · rw [upd_other _ _ e, HV.out key hk]
            have hsk : (Lit.string key.data.toList).sameKey (.string x.data.toList) = false := by
              cases hs : (Lit.string key.data.toList).sameKey (.string x.data.toList)
              · rfl
              · exact absurd (WideAt.sameKey_eq hs) (string_ne e)
            rw [hsk]
            simp
        · rcases hk with rfl | rfl | ⟨k2, c2, hc2, hf⟩
          · exact .inl (.inl rfl)
          · exact .inl (.inr (.inl rfl))
          · by_cases e : k2 = x
            · rw [e, upd_same] at hc2
              cases hc2
              rcases HFT.out k hf with hf' | hge
              · exact HTER.out k (.inr (.inr ⟨x, ch, HCH.out, hf'⟩))
              · exact .inr (by omega)
            · rw [upd_other _ _ e] at hc2
              exact HTER.out k (.inr (.inr ⟨k2, c2, hc2, hf⟩))
      case measure => rw [HRG2.out.left_eq, HRG0.out.left_eq]; exact hlt

end Go.Proofs.Ytnonnencdhogiaa

/-
  Layer 14: slices.Sorted(maps.Keys(m)) at the seat's numbers: the library's contracts, laid.
-/
namespace Go.Proofs
open Go.Shelf
def Try.keys67_ren : Go.Shelf.Ren := ⟨fun | 7 => 67 | 10 => 87 | n => n, fun | 23 => 81 | 26 => 9 | 3 => 84 | 28 => 116 | 0 => 0 | 27 => 115 | 33 => 136 | 4 => 4 | n => n, fun | n => n⟩
theorem Try.keys67 : Go.Proofs.SlLaysZ.n7 Try.prog Try.keys67_ren := {
  mixed := by kernel_rfl
  f7 := ⟨Try.f67.name, by decide, Try.func67.trans (congrArg some (by kernel_rfl))⟩
  f10 := ⟨Try.f87.name, by decide, Try.func87.trans (congrArg some (by kernel_rfl))⟩
  t0 := Try.underlying0
  a0 := Try.isAgg0
  z0 := Try.sizeOf0
  v0 := Try.zeroValue0
  t4 := Try.underlying4
  a4 := Try.isAgg4
  z4 := Try.sizeOf4
  v4 := Try.zeroValue4
  t23 := Try.underlying81
  a23 := Try.isAgg81
  z23 := Try.sizeOf81
  v23 := Try.zeroValue81
  t26 := Try.underlying9
  a26 := Try.isAgg9
  z26 := Try.sizeOf9
  v26 := Try.zeroValue9
  t27 := Try.underlying115
  a27 := Try.isAgg115
  z27 := Try.sizeOf115
  v27 := Try.zeroValue115
  t28 := Try.underlying116
  a28 := Try.isAgg116
  z28 := Try.sizeOf116
  v28 := Try.zeroValue116
  t33 := Try.underlying136
  a33 := Try.isAgg136
  z33 := Try.sizeOf136
  v33 := Try.zeroValue136 }
def Try.sorted66_ren : Go.Shelf.Ren := ⟨fun | 6 => 66 | 8 => 86 | 9 => 27 | 11 => 94 | 13 => 55 | 12 => 54 | 23 => 80 | 24 => 81 | 14 => 71 | 15 => 72 | 16 => 73 | 17 => 74 | 18 => 75 | 19 => 76 | 20 => 77 | 21 => 78 | 22 => 79 | 25 => 88 | 26 => 89 | 27 => 90 | 28 => 91 | 29 => 92 | 30 => 93 | 31 => 95 | n => n, fun | 26 => 9 | 28 => 116 | 24 => 45 | 0 => 0 | 3 => 3 | 37 => 106 | 48 => 130 | 50 => 132 | 4 => 4 | 40 => 123 | 39 => 122 | 45 => 53 | 5 => 5 | 9 => 9 | 51 => 137 | 55 => 141 | 57 => 144 | 58 => 38 | 33 => 136 | n => n, fun | n => n⟩
theorem Try.sorted66 : Go.Proofs.SlLaysZ.n6 Try.prog Try.sorted66_ren := {
  mixed := by kernel_rfl
  f6 := ⟨Try.f66.name, by decide, Try.func66.trans (congrArg some (by kernel_rfl))⟩
  f8 := ⟨Try.f86.name, by decide, Try.func86.trans (congrArg some (by kernel_rfl))⟩
  f11 := ⟨Try.f94.name, by decide, Try.func94.trans (congrArg some (by kernel_rfl))⟩
  t0 := Try.underlying0
  a0 := Try.isAgg0
  z0 := Try.sizeOf0
  v0 := Try.zeroValue0
  t24 := Try.underlying45
  a24 := Try.isAgg45
  z24 := Try.sizeOf45
  v24 := Try.zeroValue45
  t26 := Try.underlying9
  a26 := Try.isAgg9
  z26 := Try.sizeOf9
  v26 := Try.zeroValue9
  t28 := Try.underlying116
  a28 := Try.isAgg116
  z28 := Try.sizeOf116
  v28 := Try.zeroValue116
  i26 := by kernel_rfl }
def Try.sort27_ren : Go.Shelf.Ren := ⟨fun | 6 => 27 | 8 => 55 | 9 => 54 | 19 => 80 | 20 => 81 | 21 => 71 | 22 => 72 | 23 => 73 | 24 => 74 | 25 => 75 | 26 => 76 | 27 => 77 | 28 => 78 | 29 => 79 | 36 => 88 | 31 => 89 | 32 => 90 | 37 => 91 | 38 => 92 | 39 => 93 | 41 => 95 | n => n, fun | 27 => 45 | 29 => 9 | 3 => 3 | 32 => 106 | 26 => 45 | 0 => 0 | 44 => 130 | 46 => 132 | 4 => 4 | 36 => 123 | 35 => 122 | 41 => 53 | 5 => 5 | 9 => 9 | 53 => 137 | 57 => 141 | 63 => 144 | 64 => 38 | n => n, fun | n => n⟩
theorem Try.sort27 : Go.Proofs.SlLaysM.n6 Try.prog Try.sort27_ren := {
  mixed := by kernel_rfl
  f6 := ⟨Try.f27.name, by decide, Try.func27.trans (congrArg some (by kernel_rfl))⟩
  f8 := Try.func55.trans (congrArg some (by kernel_rfl))
  f9 := ⟨Try.f54.name, by decide, Try.func54.trans (congrArg some (by kernel_rfl))⟩
  f19 := Try.func80.trans (congrArg some (by kernel_rfl))
  f20 := Try.func81.trans (congrArg some (by kernel_rfl))
  f21 := ⟨Try.f71.name, by decide, Try.func71.trans (congrArg some (by kernel_rfl))⟩
  f22 := ⟨Try.f72.name, by decide, Try.func72.trans (congrArg some (by kernel_rfl))⟩
  f23 := ⟨Try.f73.name, by decide, Try.func73.trans (congrArg some (by kernel_rfl))⟩
  f24 := ⟨Try.f74.name, by decide, Try.func74.trans (congrArg some (by kernel_rfl))⟩
  f25 := ⟨Try.f75.name, by decide, Try.func75.trans (congrArg some (by kernel_rfl))⟩
  f26 := ⟨Try.f76.name, by decide, Try.func76.trans (congrArg some (by kernel_rfl))⟩
  f27 := ⟨Try.f77.name, by decide, Try.func77.trans (congrArg some (by kernel_rfl))⟩
  f28 := ⟨Try.f78.name, by decide, Try.func78.trans (congrArg some (by kernel_rfl))⟩
  f29 := ⟨Try.f79.name, by decide, Try.func79.trans (congrArg some (by kernel_rfl))⟩
  f31 := Try.func89.trans (congrArg some (by kernel_rfl))
  f32 := Try.func90.trans (congrArg some (by kernel_rfl))
  f36 := ⟨Try.f88.name, by decide, Try.func88.trans (congrArg some (by kernel_rfl))⟩
  f37 := ⟨Try.f91.name, by decide, Try.func91.trans (congrArg some (by kernel_rfl))⟩
  f38 := ⟨Try.f92.name, by decide, Try.func92.trans (congrArg some (by kernel_rfl))⟩
  f39 := ⟨Try.f93.name, by decide, Try.func93.trans (congrArg some (by kernel_rfl))⟩
  f41 := ⟨Try.f95.name, by decide, Try.func95.trans (congrArg some (by kernel_rfl))⟩
  t0 := Try.underlying0
  a0 := Try.isAgg0
  z0 := Try.sizeOf0
  v0 := Try.zeroValue0
  t3 := Try.underlying3
  a3 := Try.isAgg3
  z3 := Try.sizeOf3
  v3 := Try.zeroValue3
  t4 := Try.underlying4
  a4 := Try.isAgg4
  z4 := Try.sizeOf4
  v4 := Try.zeroValue4
  t5 := Try.underlying5
  a5 := Try.isAgg5
  z5 := Try.sizeOf5
  v5 := Try.zeroValue5
  t9 := Try.underlying9
  a9 := Try.isAgg9
  z9 := Try.sizeOf9
  v9 := Try.zeroValue9
  t26 := Try.underlying45
  a26 := Try.isAgg45
  z26 := Try.sizeOf45
  v26 := Try.zeroValue45
  t27 := Try.underlying45
  a27 := Try.isAgg45
  z27 := Try.sizeOf45
  v27 := Try.zeroValue45
  t29 := Try.underlying9
  a29 := Try.isAgg9
  z29 := Try.sizeOf9
  v29 := Try.zeroValue9
  t32 := Try.underlying106
  a32 := Try.isAgg106
  z32 := Try.sizeOf106
  v32 := Try.zeroValue106
  t35 := Try.underlying122
  a35 := Try.isAgg122
  z35 := Try.sizeOf122
  v35 := Try.zeroValue122
  t36 := Try.underlying123
  a36 := Try.isAgg123
  z36 := Try.sizeOf123
  v36 := Try.zeroValue123
  t41 := Try.underlying53
  a41 := Try.isAgg53
  z41 := Try.sizeOf53
  v41 := Try.zeroValue53
  t44 := Try.underlying130
  a44 := Try.isAgg130
  z44 := Try.sizeOf130
  v44 := Try.zeroValue130
  t46 := Try.underlying132
  a46 := Try.isAgg132
  z46 := Try.sizeOf132
  v46 := Try.zeroValue132
  t53 := Try.underlying137
  a53 := Try.isAgg137
  z53 := Try.sizeOf137
  v53 := Try.zeroValue137
  t57 := Try.underlying141
  a57 := Try.isAgg141
  z57 := Try.sizeOf141
  v57 := Try.zeroValue141
  t63 := Try.underlying144
  a63 := Try.isAgg144
  z63 := Try.sizeOf144
  v63 := Try.zeroValue144
  t64 := Try.underlying38
  a64 := Try.isAgg38
  z64 := Try.sizeOf38
  v64 := Try.zeroValue38 }
open Go.RowKit Go.Maps Go.Sort

/-- slices.Sort's two contracts at this dump, at the fence that asks nothing. -/
theorem Try.sorts66 (m : Nat) : AnyZ.SortsIn Try.prog Try.sorted66_ren Fence.wide m :=
  ⟨fun blk off cap ss W hH hblk hsz => callsIn_wide.2 (AnyM.slices_Sort_string Try.sort27 blk off cap ss W hH hblk hsz),
   fun p cap W => callsIn_wide.2 (AnyM.slices_Sort_string_none Try.sort27 p cap W)⟩

/-- **maps.Keys[map[string]*cloister/chain.Chain[[]byte],string,*cloister/chain.Chain[[]byte]], at whatever map, the nil one too:** a function value over ONE NEW BLOCK, which holds the map. -/
theorem Try.maps_Keys_67 (mb : Option Nat) (W : World) : CallsIn Fence.wide 5 Try.prog 67 #[.map mb] W fun e w' => e = .returned (.func (.func 87) #[] #[.pointer (some ⟨W.heap.size, 0, none⟩)]) ∧ w' = W.alloc (.cells #[.map mb] 81) :=
  AnyZ.keys_in Try.keys67 Fence.wide 5 trivial rfl mb W

set_option maxHeartbeats 1000000 in
/-- **slices.Sorted[string] AT WHAT maps.Keys[map[string]*cloister/chain.Chain[[]byte],string,*cloister/chain.Chain[[]byte]] HANDED BACK FOR A MAP THAT IS NOT nil** ('w': the world AHEAD of maps.Keys' call): A NEW SLICE THAT HOLDS THE MAP's KEYS, SORTED; nil just where it has none; nothing that lay before has turned. -/
theorem Try.slices_Sorted_keys_66_67 {H : Type} (b nn : Nat) (D0 : DataW H) (R : Value → Option (DataW H × List MemPlace)) (w : World) (hown : w.ownsMap Try.prog 9 R b nn D0) (hmax : Maps.size D0 ≤ maxLen) (hbytes : Maps.size D0 * 16 ≤ 140737488355328) :
    CallsIn Fence.wide 5 Try.prog 66 #[.func (.func 87) #[] #[.pointer (some ⟨w.heap.size, 0, none⟩)]] (w.alloc (.cells #[.map (some b)] 81)) fun e w' => ∃ (v : Value) (ss : List (List UInt8)), e = .returned v ∧ ss.Perm (strKeys D0) ∧
      w'.ownsRow (w.alloc (.cells #[.map (some b)] 81)).heap.size 9 1 v ss.length ((ss.mergeSort (fun x y => decide (x ≤ y))).map encStr) ∧ (v = .slice none 0 0 ↔ ss = []) ∧ Below (w.alloc (.cells #[.map (some b)] 81)).heap.size (w.alloc (.cells #[.map (some b)] 81)) w' := by
  have hbl := hown.lt
  have hseq : SeqGives Fence.wide 2 Try.prog 87 #[.pointer (some ⟨w.heap.size, 0, none⟩)] encStr (fun ss => ss.Perm (strKeys D0)) (Maps.size D0) (w.alloc (.cells #[.map (some b)] 81)) :=
    AnyZ.keys_gives (ρ := Try.keys67_ren) { Try.keys67 with } Fence.wide _ trivial rfl (by omega) w.heap.size b nn D0 _ (by simp) (by simp) (by
      obtain ⟨es, clock, hb, Ft, hs, hD⟩ := hown
      exact ⟨es, clock, (Below.heap_alloc _ _ b hbl).trans hb, Ft, hs, hD⟩)
  exact AnyZ.sorted_in Try.sorted66 Fence.wide 5 trivial trivial trivial trivial rfl (by omega) (Try.sorts66 _) (enters_of Try.func27 (by kernel_rfl) rfl) 87 #[.pointer (some ⟨w.heap.size, 0, none⟩)] trivial (enters_of Try.func87 (by kernel_rfl) rfl) _ _ hmax hbytes _ hseq

set_option maxHeartbeats 1000000 in
/-- **.. AND FOR THE nil MAP: nil.** -/
theorem Try.slices_Sorted_keys_nil_66_67 (w : World) :
    CallsIn Fence.wide 5 Try.prog 66 #[.func (.func 87) #[] #[.pointer (some ⟨w.heap.size, 0, none⟩)]] (w.alloc (.cells #[.map none] 81)) fun e w' => ∃ (v : Value) (ss : List (List UInt8)), e = .returned v ∧ ss = [] ∧
      w'.ownsRow (w.alloc (.cells #[.map none] 81)).heap.size 9 1 v ss.length ((ss.mergeSort (fun x y => decide (x ≤ y))).map encStr) ∧ (v = .slice none 0 0 ↔ ss = []) ∧ Below (w.alloc (.cells #[.map none] 81)).heap.size (w.alloc (.cells #[.map none] 81)) w' := by
  have hseq : SeqGives Fence.wide 2 Try.prog 87 #[.pointer (some ⟨w.heap.size, 0, none⟩)] encStr (fun ss : List (List UInt8) => ss = []) 0 (w.alloc (.cells #[.map none] 81)) :=
    AnyZ.keys_gives_nil (ρ := Try.keys67_ren) { Try.keys67 with } Fence.wide _ trivial rfl w.heap.size _ (by simp) (by simp)
  exact AnyZ.sorted_in Try.sorted66 Fence.wide 5 trivial trivial trivial trivial rfl (by omega) (Try.sorts66 _) (enters_of Try.func27 (by kernel_rfl) rfl) 87 #[.pointer (some ⟨w.heap.size, 0, none⟩)] trivial (enters_of Try.func87 (by kernel_rfl) rfl) _ 0 (Nat.zero_le _) (by omega) _ hseq

end Go.Proofs

/-
  Layer 14: keys (the keys that have versions, sorted).
-/
namespace Go.Proofs.Ytnonnencdhogiaa
open Go.RowKit
open Cb (ChIs Foot)

/-- a slice of strings that is its own -/
def RowS (w : World) (B : Nat) (v : Value) (l : List (List UInt8)) : Prop := w.ownsRow B 9 1 v l.length (l.map encStr)
/-- a map's keys, sorted -/
def sortedKeys (D : MD) : List (List UInt8) := (strKeys D).mergeSort leB

def KeysPost (ks : List (List UInt8)) (w : World) (e : Ending) (w' : World) : Prop := ∃ v, e = .returned v ∧ RowS w' w.heap.size v ks ∧ Only NoneOf w w'

theorem ownsRow_base {w : World} {B B' : Nat} {t : TypeId} {sz : Nat} {v : Value} {n : Nat} {l : List Value} (h : w.ownsRow B t sz v n l) (hB : B' ≤ B) : w.ownsRow B' t sz v n l := by
  refine ⟨h.1, ?_⟩
  rcases h.2 with h0 | ⟨g, cap, cur, hv, hb, r⟩
  · exact .inl h0
  · exact .inr ⟨g, cap, cur, hv, Nat.le_trans hB hb, r⟩

set_option maxRecDepth 100000 in
set_option maxHeartbeats 1000000 in
theorem keys_is (w : World) (s m n : Nat) (D : MD) (C : ByteArray → Option Ch) (live : Int) (h : StIs w s m n D C live) (hfew : Go.Maps.size D * 16 ≤ 140737488355328) :
    Calls Try.prog 49 #[.pointer (some ⟨s, 0, none⟩)] w (KeysPost (sortedKeys D) w) := by
  have c0 := h.blk.cellv 0 rfl
  have HK := Lib.hid (fun u => callsIn_wide.1 (Try.maps_Keys_67 (some m) u))
  have HS := Lib.hid (callsIn_wide.1 (Try.slices_Sorted_keys_66_67 m n D RP w h.map (by unfold maxLen; omega) hfew))
  clear h hfew
  go_enter Try.func49, Try.ntmps49
  go_wp2_with fail
  refine (HK.out w).mono ?_; rintro e w1 ⟨rfl, rfl⟩
  go_wp2_with fail
  refine HS.out.mono ?_; rintro e w2 ⟨v, ss, rfl, hp, hrow, _, hb⟩
  have HB := Lib.hid ((Only.refl NoneOf w).alloc (.cells #[.map (some m)] 81) |>.trans (Only.of_below hb NoneOf))
  have HR := Lib.hid hrow
  have HP := Lib.hid hp
  have hl := hrow.1
  clear hrow hp hb
  go_wp2_with fail
  go_ret
  refine ⟨v, rfl, ?_, HB.out⟩
  have e : sortedKeys D = ss.mergeSort leB := by unfold sortedKeys; rw [mergeSort_of_perm HP.out]
  unfold RowS
  rw [e, List.length_mergeSort]
  exact ownsRow_base HR.out (by simp)

set_option maxHeartbeats 400000 in
theorem keys_nil (w : World) : Calls Try.prog 49 #[.pointer none] w fun e w' => e = .returned (.slice none 0 0) ∧ w = w' := by
  go_enter Try.func49, Try.ntmps49
  go_wp2_with fail
  go_ret
  exact ⟨rfl, rfl⟩

end Go.Proofs.Ytnonnencdhogiaa

/-
  A range over a function, where the blocks that the iterator lays are its own: a contract of iterators, and the caller's law. (After the library's laws of Derived/RangeFuncKeeps and Derived/RangeFuncNested, with a bound E more: the iterator's zone ends there.)
-/
namespace Go.Proofs.Ytnonnencdhogiaa
open Go.RowKit

/-- The caller's blocks: those ahead of B, but for some that the iterator reads, and those from E on. -/
abbrev Theirs (B E : Nat) (Kp : Nat → Prop) : Nat → Prop := fun k => k < B ∧ ¬ Kp k ∨ E ≤ k
/-- The iterator's own blocks. -/
abbrev Ours (B E : Nat) : Nat → Prop := fun k => B ≤ k ∧ k < E

theorem Only.putObj {S : Nat → Prop} {w w' : World} (h : Only S w w') {l : Nat} (hl : S l ∨ w.heap.size ≤ l) (o : Obj) : Only S w (w'.putObj l o) :=
  ⟨h.os, h.tape, h.output, by simpa using h.size, fun k hk hs => (World.putObj_heap_other (by rintro rfl; rcases hl with hl | hl; exact hs hl; omega)).trans (h.block k hk hs)⟩

theorem room_free (k : Nat) : Fence.wide.room k := fun d h => by cases h
/-- Where no depth is asked the figures are all one. -/
theorem YieldAt.deep {m : Nat} (m' : Nat) {P : Program} {l : Nat} {args : Array Value} {W : World} {R : Ending → World → Prop} (h : YieldAt Fence.wide m P l args W R) : YieldAt Fence.wide m' P l args W R := by
  obtain ⟨fn, tmps, assign, body, hy, hR⟩ := h
  exact ⟨fn, tmps, assign, body, hy, hR.1, fun c cs _ => hR.2 c cs (room_free _)⟩
theorem CallsIn.deep {n : Nat} (n' : Nat) {P : Program} {f : FuncId} {args : Array Value} {w : World} {R : Ending → World → Prop} (h : CallsIn Fence.wide n P f args w R) : CallsIn Fence.wide n' P f args w R :=
  callsIn_wide.2 (callsIn_wide.1 h)

/-- In the world W a call of the function gf with a loop's round tells the elements xs, one behind the other, till a round says 'no more'. -/
def Iter {α : Type} (P : Program) (gf : Nat) (lb : Array Value) (encs : α → Array Value) (xs : List α) (Kp : Nat → Prop) (W : World) : Prop :=
  ∀ (l : Nat) (J Jx : Nat → List α → World → Prop),
    (∀ E pre A B, J E pre A → Only (Ours W.heap.size E) A B → J E pre B) →
    (∀ E pre A B, Jx E pre A → Only (Ours W.heap.size E) A B → Jx E pre B) →
    (∀ E B, W.heap.size ≤ E → E ≤ B.heap.size → Only NoneOf W B → J E [] B) →
    (∀ E pre x A, W.heap.size ≤ E → E ≤ A.heap.size → J E pre A → pre ++ [x] <+: xs →
      YieldAt Fence.wide 1 P l (encs x) A fun e B => (e = .returned (.bool true) ∧ J E (pre ++ [x]) B ∧ Only (Theirs W.heap.size E Kp) A B) ∨ (e = .returned (.bool false) ∧ Jx E (pre ++ [x]) B ∧ Only (Theirs W.heap.size E Kp) A B)) →
    CallsIn Fence.wide 1 P gf (#[.func (.yield l) #[] #[]] ++ lb) W fun e B => (∃ v, e = .returned v) ∧ ∃ E, W.heap.size ≤ E ∧ (J E xs B ∨ ∃ pre, pre <+: xs ∧ Jx E pre B)

/-- How a round may be left. -/
def roundEnds {α : Type} (B E : Nat) (Kp : Nat → Prop) (I : Nat → List α → World → Prop) (Ix : Code → Nat → List α → World → Prop) (xs : List α) (W : World) : Exit → Act → World → Prop
  | .normal, _, W' => Only (Theirs B E Kp) W W' ∧ I E xs W'
  | .ret, _, W' => Only (Theirs B E Kp) W W' ∧ Ix .ret E xs W'
  | .exit id, _, W' => Only (Theirs B E Kp) W W' ∧ Ix (.exit id) E xs W'
  | .goto t, _, W' => Only (Theirs B E Kp) W W' ∧ Ix (.goto t) E xs W'
  | .panic _, _, _ => False
  | .outgrown, _, _ => False

theorem range_own {n : Nat} {P : Program} {α : Type} {g : Operand} {ps : Array Tmp} {assign body : Code} {Q : Exit → Act → World → Prop} {a : Act} {w : World}
    (h1 : 1 ≤ n) {gf : Nat} {lb : Array Value} (hg : a.eval g = .func (.func gf) #[] lb) (eg : ∀ args w, (callFunc gf args).run P w = .ok (.enter gf args) w)
    {encs : α → Array Value} {xs : List α} {Kp : Nat → Prop} (hit : ∀ W, Only NoneOf w W → W.heap.size = w.heap.size + 2 → Iter P gf lb encs xs Kp W) (hps : ∀ x, (encs x).size = ps.size) (hKp : ∀ {k}, w.heap.size ≤ k → ¬ Kp k)
    (I : Nat → List α → World → Prop) (Ix : Code → Nat → List α → World → Prop)
    (hI : ∀ E pre A B, I E pre A → Only (Ours w.heap.size E) A B → I E pre B) (hIx : ∀ c E pre A B, Ix c E pre A → Only (Ours w.heap.size E) A B → Ix c E pre B)
    (h0 : ∀ E B, w.heap.size + 2 ≤ E → E ≤ B.heap.size → Only NoneOf w B → I E [] B)
    (Ax : α → Act → World → Prop) (hAx : ∀ x a' A B, Ax x a' A → Only (· = w.heap.size + 1) A B → Ax x a' B)
    (hassign : ∀ (x : α) (W : World) (K : Act → World → Prop), x ∈ xs → w.heap.size + 2 ≤ W.heap.size → (∀ a' W', Only NoneOf W W' → Ax x a' W' → K a' W') →
      assign.wpIn (Fence.wide.inRound (w.heap.size + 1)) (n - 1 - 1) P (Exit.then K (fun _ _ _ => False)) { tmps := (ps.zip (encs x)).foldl (fun t (p, v) => t.setIfInBounds p v) a.tmps, defers := [] } W)
    (hbody : ∀ (E : Nat) (pre : List α) (x : α) (a' : Act) (W : World), (∃ r, W.heap[w.heap.size + 1]? = some (.loop r)) → w.heap.size + 2 ≤ E → E ≤ W.heap.size → pre ++ [x] <+: xs → I E pre W → Ax x a' W →
      body.wpIn (Fence.wide.inRound (w.heap.size + 1)) (n - 1 - 1) P (roundEnds w.heap.size E Kp I Ix (pre ++ [x]) W) a' W)
    (hdone : ∀ (E : Nat) (W : World), w.heap.size + 2 ≤ E → I E xs W → W.heap[w.heap.size]? = some (.deferred (some [])) → Q .normal { a with defers := { target := .collected w.heap.size, args := #[] } :: a.defers } W)
    (hstop : ∀ (E : Nat) (c : Code) (pre : List α) (W : World), w.heap.size + 2 ≤ E → pre <+: xs → Ix c E pre W → W.heap[w.heap.size]? = some (.deferred (some [])) →
      c.wpIn Fence.wide n P Q { a with defers := { target := .collected w.heap.size, args := #[] } :: a.defers } W) :
    (Code.rangeFunc g ps assign body).wpIn Fence.wide n P Q a w := by
  refine wpIn_rangeFunc ?_
  intro fn hfn
  rw [show Fence.wide.round = none from rfl]
  obtain ⟨rec, hrec⟩ : ∃ rec : LoopState → Option Code → Loop, rec = fun st pe => { state := st, pending := pe, fn, tmps := a.tmps, params := ps, assign, body, defers := w.heap.size } := ⟨_, rfl⟩
  obtain ⟨W1, hW1⟩ : ∃ W1, (w.alloc (.deferred (some []))).alloc (.loop (rec .ready none)) = W1 := ⟨_, rfl⟩
  have hz : W1.heap.size = w.heap.size + 2 := by rw [← hW1]; simp
  have hO1 : Only NoneOf w W1 := by rw [← hW1]; exact ((Only.refl _ _).alloc _).alloc _
  have hL1 : W1.heap[w.heap.size + 1]? = some (.loop (rec .ready none)) := by
    rw [← hW1]; have := World.alloc_heap_new (w.alloc (.deferred (some []))) (.loop (rec .ready none)); rwa [World.size_alloc] at this
  have hK1 : W1.heap[w.heap.size]? = some (.deferred (some [])) := by
    rw [← hW1]; exact (Below.heap_alloc _ _ _ (by simp)).trans (World.alloc_heap_new w _)
  refine ⟨w.heap.size + 1, [{ target := .collected w.heap.size, args := #[] }], W1, { target := .fn (.func gf) lb, args := #[.func (.yield (w.heap.size + 1)) #[] #[]] }, W1, gf,
    #[.func (.yield (w.heap.size + 1)) #[] #[]] ++ lb, W1, ?_, ?_, ?_, ?_, fun _ => h1, ?_⟩
  · rw [← hW1, hrec]; exact run_enterLoop_outer _ _ _ _ _
  · simp only [resolve, hg]
    simp [go_sem]
  · intro f' hf'; simp [Target.leads] at hf'; subst hf'; exact trivial
  · simp [invoke, go_sem, eg]
  · have sub : ∀ {E : Nat} {A B : World}, Only (Ours W1.heap.size E) A B → Only (Ours w.heap.size E) A B := fun h => h.mono fun k _ hk => ⟨by have := hk.1; omega, hk.2⟩
    have own : ∀ {E l : Nat} {A : World} (o : Obj), w.heap.size ≤ l → l < E → Only (Ours w.heap.size E) A (A.putObj l o) := fun o h2 h3 => (Only.refl _ _).putObj (.inl ⟨h2, h3⟩) o
    have rec_keeps : ∀ {E : Nat} {A B : World} {k : Nat} {o : Obj}, k < W1.heap.size → A.heap[k]? = some o → Only (Ours W1.heap.size E) A B → B.heap[k]? = some o := fun hk ho h => by
      have hlt := (Array.getElem?_eq_some_iff.1 ho).1
      exact (h.block _ hlt (fun hh => by have := hh.1; omega)).trans ho
    refine CallsIn.deep (n - 1) ((hit W1 hO1 hz (w.heap.size + 1)
      (fun E pre W => W1.heap.size ≤ E ∧ I E pre W ∧ W.heap[w.heap.size + 1]? = some (.loop (rec .ready none)) ∧ W.heap[w.heap.size]? = some (.deferred (some [])))
      (fun E pre W => W1.heap.size ≤ E ∧ ∃ c, Ix c E pre W ∧ W.heap[w.heap.size + 1]? = some (.loop (rec .done (some c))) ∧ W.heap[w.heap.size]? = some (.deferred (some [])))
      (fun E pre A B hs h => ⟨hs.1, hI E pre A B hs.2.1 (sub h), rec_keeps (by omega) hs.2.2.1 h, rec_keeps (by omega) hs.2.2.2 h⟩)
      (fun E pre A B hs h => by
        obtain ⟨hE, c, hc, hl, hk⟩ := hs
        exact ⟨hE, c, hIx c E pre A B hc (sub h), rec_keeps (by omega) hl h, rec_keeps (by omega) hk h⟩)
      (fun E B hE hB h => ⟨hE, h0 E B (by omega) hB (hO1.trans h), (h.block _ (by omega) (fun x => x)).trans hL1, (h.block _ (by omega) (fun x => x)).trans hK1⟩)
      ?_).mono ?_)
    · rintro E pre x W hE hEW ⟨_, hi, hl, hk⟩ hpre
      have hlt : w.heap.size + 1 < W.heap.size := (Array.getElem?_eq_some_iff.1 hl).1
      have hy := run_yield (P := P) (args := encs x) hl (by rw [hrec]; exact hps x)
      rw [hrec] at hy
      refine YieldAt.deep (m := n - 1 - 1) 1 ⟨fn, _, assign, body, hy, roundIn_of_wpIn hfn (hassign x W _ (hpre.subset (by simp)) (by omega) ?_)⟩
      clear hy
      intro a' Wa hoa hax
      have hla := (hoa.block _ hlt (fun x => x)).trans hl
      have hka := (hoa.block _ (by omega) (fun x => x)).trans hk
      have hlta : w.heap.size + 1 < Wa.heap.size := (Array.getElem?_eq_some_iff.1 hla).1
      have hia := hI E pre W Wa hi (hoa.mono fun _ _ h => h.elim)
      refine ⟨_, run_beginRound hla (by rw [hrec]), ?_⟩
      have hl2 : (Wa.putObj (w.heap.size + 1) (.loop { rec .ready none with state := .busy })).heap[w.heap.size + 1]? = some (.loop { rec .ready none with state := .busy }) := World.putObj_heap_same hlta
      have hk2 : (Wa.putObj (w.heap.size + 1) (.loop { rec .ready none with state := .busy })).heap[w.heap.size]? = some (.deferred (some [])) := (World.putObj_heap_other (by omega)).trans hka
      have hz2 : (Wa.putObj (w.heap.size + 1) (.loop { rec .ready none with state := .busy })).heap.size = Wa.heap.size := by simp
      have hsz := hoa.size
      refine wpIn_mono (hbody E pre x a' _ ⟨_, hl2⟩ (by omega) (by rw [World.putObj_size]; omega) hpre (hI E pre _ _ hia (own _ (by omega) (by omega))) (hAx x a' _ _ hax (Only.putObj (S := (· = w.heap.size + 1)) (Only.refl _ _) (.inl rfl) _))) ?_
      have fin : ∀ (jump : Option Code) (W3 : World), Only (Theirs w.heap.size E Kp) (Wa.putObj (w.heap.size + 1) (.loop { rec .ready none with state := .busy })) W3 →
          (Instr.endRound (w.heap.size + 1) jump).run P W3 = .ok (.bool jump.isNone) (W3.putObj (w.heap.size + 1) (.loop (rec (if jump.isNone then .ready else .done) jump))) ∧
          (W3.putObj (w.heap.size + 1) (.loop (rec (if jump.isNone then .ready else .done) jump))).heap[w.heap.size + 1]? = some (.loop (rec (if jump.isNone then .ready else .done) jump)) ∧
          (W3.putObj (w.heap.size + 1) (.loop (rec (if jump.isNone then .ready else .done) jump))).heap[w.heap.size]? = some (.deferred (some [])) ∧
          Only (Theirs W1.heap.size E Kp) W (W3.putObj (w.heap.size + 1) (.loop (rec (if jump.isNone then .ready else .done) jump))) := fun jump W3 hk3 => by
        have hl3 := (hk3.block (w.heap.size + 1) (by rw [World.putObj_size]; omega) (fun h => by rcases h with h | h <;> omega)).trans hl2
        have hd3 := (hk3.block w.heap.size (by rw [World.putObj_size]; omega) (fun h => by rcases h with h | h <;> omega)).trans hk2
        have hr := run_endRound (P := P) jump hl3
        refine ⟨by rw [hrec] at hr ⊢; exact hr, World.putObj_heap_same (Array.getElem?_eq_some_iff.1 hl3).1, (World.putObj_heap_other (by omega)).trans hd3, ?_⟩
        refine Only.putObj ?_ (.inl (.inl ⟨by omega, hKp (by omega)⟩)) _
        refine Only.step (S' := Theirs w.heap.size E Kp) (Only.putObj (hoa.mono fun _ _ h => h.elim) (.inl (.inl ⟨by omega, hKp (by omega)⟩)) _) hk3 (fun k _ h => ?_)
        rcases h with h | h
        · exact .inl ⟨by omega, h.2⟩
        · exact .inr h
      rintro e a3 W3 hp
      cases e with
      | normal =>
        obtain ⟨hk3, hi3⟩ := hp
        obtain ⟨hr, hl4, hk4, ho4⟩ := fin none W3 hk3
        exact ⟨_, _, hr, .inl ⟨rfl, ⟨hE, hI E _ _ _ hi3 (own _ (by omega) (by omega)), hl4, hk4⟩, ho4⟩⟩
      | ret =>
        obtain ⟨hk3, hi3⟩ := hp
        obtain ⟨hr, hl4, hk4, ho4⟩ := fin (some .ret) W3 hk3
        exact ⟨_, _, hr, .inr ⟨rfl, ⟨hE, .ret, hIx _ E _ _ _ hi3 (own _ (by omega) (by omega)), hl4, hk4⟩, ho4⟩⟩
      | exit id =>
        obtain ⟨hk3, hi3⟩ := hp
        obtain ⟨hr, hl4, hk4, ho4⟩ := fin (some (.exit id)) W3 hk3
        exact ⟨_, _, hr, .inr ⟨rfl, ⟨hE, .exit id, hIx _ E _ _ _ hi3 (own _ (by omega) (by omega)), hl4, hk4⟩, ho4⟩⟩
      | goto t =>
        obtain ⟨hk3, hi3⟩ := hp
        obtain ⟨hr, hl4, hk4, ho4⟩ := fin (some (.goto t)) W3 hk3
        exact ⟨_, _, hr, .inr ⟨rfl, ⟨hE, .goto t, hIx _ E _ _ _ hi3 (own _ (by omega) (by omega)), hl4, hk4⟩, ho4⟩⟩
      | panic ch => exact hp.elim
      | outgrown => exact hp.elim
    · rintro e W2 ⟨⟨v, rfl⟩, E, hE, (⟨_, hi, hl, hk⟩ | ⟨pre, hpre, _, c, hi, hl, hk⟩)⟩
      · exact ⟨none, _, by have := run_endLoop (P := P) hl (by rw [hrec]; simp); rw [hrec] at this; exact this, hdone E _ (by omega) (hI E _ _ _ hi (own _ (by omega) (by omega))) ((World.putObj_heap_other (by omega)).trans hk)⟩
      · exact ⟨some c, _, by have := run_endLoop (P := P) hl (by rw [hrec]; simp); rw [hrec] at this; exact this, hstop E c pre _ (by omega) hpre (hIx c E _ _ _ hi (own _ (by omega) (by omega))) ((World.putObj_heap_other (by omega)).trans hk)⟩

end Go.Proofs.Ytnonnencdhogiaa

/-
  Layer 13: the walk over a chain's links: slices.Backward's closure, All's closure.
-/
namespace Go.Proofs.Ytnonnencdhogiaa
open Go.RowKit Go.Shelf
namespace Cb
attribute [local go_sem] Oper.semAt_some

/-- The links as Backward tells them: with their places, the last one first. -/
def backs (ls : List Lk) : List (Nat × Lk) := ((List.range ls.length).zip ls).reverse
def backEnc (x : Nat × Lk) : Array Value := #[.int .i64 x.1, .agg x.2.cells.toArray]

theorem backs_take (ls : List Lk) (k : Nat) (l : Lk) (hk : k < ls.length) (hl : ls[ls.length - 1 - k]? = some l) : (backs ls).take (k + 1) = (backs ls).take k ++ [(ls.length - 1 - k, l)] := by
  have hlen : (backs ls).length = ls.length := by simp [backs]
  have h : (backs ls)[k]? = some (ls.length - 1 - k, l) := by
    have h2 : ls[ls.length - 1 - k]? = some l := hl
    unfold backs
    rw [List.getElem?_reverse (by simp; omega)]
    simp only [List.length_zip, List.length_range, Nat.min_self]
    rw [List.getElem?_zip_eq_some]
    exact ⟨by rw [List.getElem?_range (by omega)], h2⟩
  rw [List.take_add_one, h]
  rfl
theorem backs_all (ls : List Lk) : (backs ls).take ls.length = backs ls := List.take_of_length_le (by simp [backs])
theorem backs_snd (ls : List Lk) : (backs ls).map (·.2) = ls.reverse := by
  unfold backs
  rw [List.map_reverse]
  congr 1
  rw [← List.unzip_snd, List.unzip_zip (by simp)]

set_option maxRecDepth 100000 in
set_option maxHeartbeats 2000000 in
/-- slices.Backward's closure over a row of links. -/
theorem back_iter (W : World) (bs : Nat) (v : Value) (ls : List Lk) (Kp : Nat → Prop) (hrow : W.ownsRow 0 92 3 v ls.length (flat ls)) (hv : ∀ l ∈ ls, IsV l.val) (hfew : ls.length ≤ 3518437208800)
    (hbs : W.cell? ⟨bs, 0, none⟩ = some v) (hk1 : Kp bs) (hk2 : ∀ g, v.ownBlock = some g → Kp g) :
    Iter Try.prog 70 #[.pointer (some ⟨bs, 0, none⟩)] backEnc (backs ls) Kp W := by
  intro l J Jx hJ hJx h0 hY
  have hbl : bs < W.heap.size := World.block_lt_of_cell? _ _ hbs
  have hgl : ∀ g, v.ownBlock = some g → g < W.heap.size := fun g hg => by
    rcases hrow.2 with ⟨rfl, _⟩ | ⟨g', cap, cur, rfl, _, hb, _⟩
    · simp [Value.ownBlock] at hg
    · have : g' = g := by simpa [Value.ownBlock] using hg
      subst this
      exact Blk.lt (t := 92) (cs := cur) hb
  have keep : ∀ E A B, W.heap.size ≤ E → W.heap.size ≤ A.heap.size → Only (Theirs W.heap.size E Kp) A B → (A.ownsRow 0 92 3 v ls.length (flat ls) → B.ownsRow 0 92 3 v ls.length (flat ls)) ∧ (A.cell? ⟨bs, 0, none⟩ = some v → B.cell? ⟨bs, 0, none⟩ = some v) := by
    intro E A B hE hA ho
    refine ⟨fun h => row_only h ho (fun g hg hh => ?_), fun h => (ho.cell (p := ⟨bs, 0, none⟩) (by show bs < _; omega) (fun hh => ?_)).trans h⟩
    · rcases hh with hh | hh
      · exact hh.2 (hk2 g hg)
      · have := hgl g hg; omega
    · rcases hh with hh | hh
      · exact hh.2 hk1
      · simp at hh; omega
  have KEEP := Lib.hid keep
  have HY := Lib.hid hY
  have HV := Lib.hid hv
  have HJ0 := Lib.hid (h0 W.heap.size W (Nat.le_refl _) (Nat.le_refl _) (Only.refl _ _))
  clear keep hY hv hJ hJx h0 hk1 hk2 hgl
  refine callsIn_of_wp Try.func70 rfl trivial ?_ rfl
  simp only [Try.ntmps70, List.size_toArray, List.length_cons, List.length_nil, Nat.reduceAdd, Nat.reduceSub, Array.replicate_succ, Array.replicate_zero, List.push_toArray, List.append_toArray, List.nil_append, List.cons_append]
  rcases hrow.2 with ⟨rfl, hlen⟩ | ⟨g, cap, cur, rfl, _, hb, hle, _, hsz, hcur⟩
  · obtain rfl : ls = [] := List.eq_nil_of_length_eq_zero hlen
    gi_wp2
    gi_loopw [3] (fun i wr => i = .int .i64 (-1) ∧ wr = W) (fun _ _ => 0)
    case atStart => exact ⟨rfl, rfl⟩
    case round =>
      obtain ⟨rfl, rfl⟩ := hrel
      gi_wp2
      go_end0
      exact ⟨⟨_, rfl⟩, _, Nat.le_refl _, .inl HJ0.out⟩
  · gi_wp2
    gi_loopw [3] (fun i wr => ∃ k : Nat, k ≤ ls.length ∧ i = .int .i64 ((ls.length : Int) - 1 - k) ∧ J W.heap.size ((backs ls).take k) wr ∧ wr.ownsRow 0 92 3 (.slice (some ⟨g, 0, none⟩) ls.length cap) ls.length (flat ls) ∧ wr.cell? ⟨bs, 0, none⟩ = some (.slice (some ⟨g, 0, none⟩) ls.length cap) ∧ W.heap.size ≤ wr.heap.size)
      (fun i _ => ((intOf i) + 1).toNat)
    case atStart => exact ⟨0, Nat.zero_le _, by simp, HJ0.out, hrow, hbs, Nat.le_refl _⟩
    case round =>
      obtain ⟨k, hk, rfl, hJs, hr, hbs', hsz'⟩ := hrel
      have HR := Lib.hid hr
      have HJ := Lib.hid hJs
      clear hr hJs
      by_cases hlt : k < ls.length
      · have hl : ls[ls.length - 1 - k]? = some (ls[ls.length - 1 - k]'(by omega)) := List.getElem?_eq_getElem _
        generalize ls[ls.length - 1 - k]'(by omega) = l0 at hl
        obtain ⟨x, hx⟩ := HV.out l0 (List.mem_of_getElem? hl)
        have hcell : ∀ j, j < 3 → wr.cell? ⟨g, (ls.length - 1 - k) * 3 + j, none⟩ = l0.cells[j]? := by
          intro j hj
          rcases HR.out.2 with ⟨h0, _⟩ | ⟨g', cap', cur', hv', _, hb', _, _, _, hcur'⟩
          · cases h0
          · injection hv' with hv1 _ _
            injection hv1 with hv1
            injection hv1 with hv1 _ _
            subst hv1
            rw [Blk.cell (t := 92) (cs := cur') hb', ← flat_get ls _ j l0 hl hj, ← hcur', List.getElem?_take_of_lt (by omega), Array.getElem?_toList]
        obtain ⟨st, val, dead⟩ := l0
        simp only at hx
        subst hx
        have c0 := hcell 0 (by omega)
        have c1 := hcell 1 (by omega)
        have c2 := hcell 2 (by omega)
        simp only [Lk.cells, Nat.add_zero, List.getElem?_cons_zero, List.getElem?_cons_succ] at c0 c1 c2
        have HT := Lib.hid (backs_take ls k _ hlt hl)
        have HP : (backs ls).take k ++ [(ls.length - 1 - k, (⟨st, Value.slice x.1 x.2.1 x.2.2, dead⟩ : Lk))] <+: backs ls := by rw [← HT.out]; exact List.take_prefix _ _
        clear hcell hl
        obtain ⟨fn, tmps, assign, body, hy, hR⟩ := YieldAt.deep (1 - 1) (HY.out W.heap.size _ _ wr (Nat.le_refl _) hsz' HJ.out HP)
        have HRR := Lib.hid hR
        clear hR HP
        have e1 : ((ls.length : Int) - 1 - (k : Int)).toNat = ls.length - 1 - k := by omega
        simp only [backEnc, Lk.cells] at hy
        rw [show ((ls.length - 1 - k : Nat) : Int) = (ls.length : Int) - 1 - k by omega] at hy
        gi_wp2
        refine HRR.out.mono ?_
        rintro e W3 (⟨rfl, hJ3, ho3⟩ | ⟨rfl, hJx3, _⟩)
        · obtain ⟨k1, k2⟩ := KEEP.out _ _ _ (Nat.le_refl _) hsz' ho3
          have hr3 := Lib.hid (k1 HR.out)
          have hb3 := Lib.hid (k2 hbs')
          have hs3 := ho3.size
          have hJ3' := Lib.hid hJ3
          clear k1 k2 hJ3 hbs' c0 c1 c2 hy e1
          gi_wp2
          go_roundw
          case rel => exact ⟨k + 1, by omega, by simp; omega, by rw [HT.out]; exact hJ3'.out, hr3.out, hb3.out, by omega⟩
          case measure => simp [intOf]; omega
        · have HX := Lib.hid hJx3
          clear hJx3 hbs' c0 c1 c2 hy e1
          gi_wp2
          refine bodyPost_ret (results_none rfl _ _ _) rfl ?_
          exact ⟨⟨_, rfl⟩, _, Nat.le_refl _, .inr ⟨_, by rw [← HT.out]; exact List.take_prefix _ _, HX.out⟩⟩
      · obtain rfl : k = ls.length := by omega
        have HA := Lib.hid (backs_all ls)
        gi_wp2
        go_end0
        exact ⟨⟨_, rfl⟩, _, Nat.le_refl _, .inl (by rw [← HA.out]; exact HJ.out)⟩

end Cb
end Go.Proofs.Ytnonnencdhogiaa

/-
  Layer 13: the walk over a chain's links: All.
-/
namespace Go.Proofs.Ytnonnencdhogiaa
open Go.RowKit Go.Shelf
namespace Cb
attribute [local go_sem] Oper.semAt_some

set_option maxHeartbeats 400000 in
theorem back_any (w : World) (A : Option Addr) (n c : Nat) : Calls Try.prog 52 #[.slice A n c] w fun e w' => e = .returned (.func (.func 70) #[] #[.pointer (some ⟨w.heap.size, 0, none⟩)]) ∧ w.alloc (.cells #[.slice A n c] 86) = w' := by
  go_enter Try.func52, Try.ntmps52
  go_wp2_with fail
  go_ret
  exact ⟨rfl, rfl⟩

set_option maxHeartbeats 400000 in
theorem all_any (w : World) (p : Option Addr) : Calls Try.prog 51 #[.pointer p] w fun e w' => e = .returned (.func (.func 69) #[] #[.pointer (some ⟨w.heap.size, 0, none⟩)]) ∧ w.alloc (.cells #[.pointer p] 84) = w' := by
  go_enter Try.func51, Try.ntmps51
  go_wp2_with fail
  go_ret
  exact ⟨rfl, rfl⟩

def linkEnc (l : Lk) : Array Value := #[.agg l.cells.toArray]

set_option maxHeartbeats 1000000 in
/-- All's closure over no chain. -/
theorem all_iter_nil (W : World) (bc : Nat) (hbc : W.cell? ⟨bc, 0, none⟩ = some (.pointer none)) : Iter Try.prog 69 #[.pointer (some ⟨bc, 0, none⟩)] linkEnc [] NoneOf W := by
  intro l J Jx hJ hJx h0 hY
  have HJ0 := Lib.hid (h0 W.heap.size (W.alloc (.cells #[.func (.yield l) #[] #[]] 119)) (Nat.le_refl _) (by simp) ((Only.refl _ _).alloc _))
  have hbl : bc < W.heap.size := World.block_lt_of_cell? _ _ hbc
  clear hY hJ hJx h0
  refine callsIn_of_wp_marks Try.func69 rfl trivial ?_ rfl
  simp only [Try.ntmps69, List.size_toArray, List.length_cons, List.length_nil, Nat.reduceAdd, Nat.reduceSub, Array.replicate_succ, Array.replicate_zero, List.push_toArray, List.append_toArray, List.nil_append, List.cons_append]
  gi_wp2
  exact ⟨_, results_none rfl _ _ _, ⟨_, rfl⟩, _, Nat.le_refl _, .inl HJ0.out⟩

/-- Clone of a chain's own slice. -/
theorem clone_own (w : World) (p : Nat) (v : Value) (ls : List Lk) (h : ChIs w p v ls) : Calls Try.prog 65 #[v] w (ClonePost ls w) := by
  rcases h.row.2 with ⟨rfl, h0⟩ | ⟨g, cap, cur, rfl, _, hb, _, _, _, hcur⟩
  · obtain rfl : ls = [] := List.eq_nil_of_length_eq_zero h0
    exact clone_nil w
  · refine clone_has w g 0 cap _ ls rfl h.vals h.few (fun j u hj => ?_)
    have e : (⟨g, 0, none⟩ : Addr).add j = ⟨g, j, none⟩ := by unfold Addr.add; split <;> simp_all
    rw [e, Blk.cell (t := 92) (cs := cur) hb]
    have hlt : j < ls.length * 3 := by
      have := (List.getElem?_eq_some_iff.1 hj).1
      rw [flat_length] at this
      exact this
    rw [← hcur, List.getElem?_take_of_lt hlt, Array.getElem?_toList] at hj
    exact hj

set_option maxRecDepth 100000 in
set_option maxHeartbeats 2000000 in
/-- All's closure over a chain. -/
theorem all_iter (W : World) (bc p : Nat) (v : Value) (ls : List Lk) (h : ChIs W p v ls) (hbc : W.cell? ⟨bc, 0, none⟩ = some (.pointer (some ⟨p, 0, none⟩))) :
    Iter Try.prog 69 #[.pointer (some ⟨bc, 0, none⟩)] linkEnc ls.reverse NoneOf W := by
  intro l J Jx hJ hJx h0 hY
  have hbl : bc < W.heap.size := World.block_lt_of_cell? _ _ hbc
  have h1 := h.alloc (.cells #[.func (.yield l) #[] #[]] 119)
  have CL := Lib.hid (clone_own _ p v ls h1)
  have hyb := Blk.new W 119 #[.func (.yield l) #[] #[]]
  have c0 := h1.blk.cellv 0 rfl
  have HJ := Lib.hid hJ
  have HJx := Lib.hid hJx
  have H0 := Lib.hid h0
  have HY := Lib.hid hY
  clear hY hJ hJx h0
  refine callsIn_of_wp_marks Try.func69 rfl trivial ?_ rfl
  simp only [Try.ntmps69, List.size_toArray, List.length_cons, List.length_nil, Nat.reduceAdd, Nat.reduceSub, Array.replicate_succ, Array.replicate_zero, List.push_toArray, List.append_toArray, List.nil_append, List.cons_append]
  gi_wp2_with fail
  refine ⟨trivial, (callsIn_wide.2 CL.out).mono ?_⟩
  rintro e w1 ⟨v', rfl, hr1, ho1, hf1⟩
  have hv' : ∃ A n c, v' = .slice A n c := by
    rcases hr1.2 with ⟨hv, _⟩ | ⟨g, cap, cur, hv, _⟩
    · exact ⟨_, _, _, hv⟩
    · exact ⟨_, _, _, hv⟩
  obtain ⟨A, n, c, rfl⟩ := hv'
  clear c0
  gi_wp2_with fail
  refine ⟨trivial, (callsIn_wide.2 (back_any _ _ _ _)).mono ?_⟩
  rintro e w2 ⟨rfl, rfl⟩
  gi_wp2_with fail
  have hg1 : ∀ k, (Value.slice A n c).ownBlock = some k → W.heap.size + 1 ≤ k ∧ k < w1.heap.size := fun k hk => by
    refine ⟨by have := hf1 k hk; simp at this; omega, ?_⟩
    rcases hr1.2 with ⟨hv, _⟩ | ⟨g, cap, cur, hv, _, hb, _⟩
    · rw [hv] at hk; simp [Value.ownBlock] at hk
    · rw [hv] at hk
      have : g = k := by simpa [Value.ownBlock] using hk
      subst this
      exact Blk.lt (t := 92) (cs := cur) hb
  have hs1 : W.heap.size + 1 ≤ w1.heap.size := by have := ho1.size; simp at this; omega
  have hW2 : Only NoneOf W (w1.alloc (.cells #[.slice A n c] 86)) := (((Only.refl _ _).alloc _).trans ho1).alloc _
  have hyb2 := (hyb.only ho1 (fun h => h)).alloc (.cells #[.slice A n c] 86)
  have hr2 : (w1.alloc (.cells #[.slice A n c] 86)).ownsRow 0 92 3 (.slice A n c) ls.length (flat ls) := row_only (S := NoneOf) hr1 ((Only.refl _ _).alloc _) (fun _ _ h => h)
  have hbs2 := (Blk.new w1 86 #[.slice A n c]).cellv 0 rfl
  have hz2 : (w1.alloc (.cells #[.slice A n c] 86)).heap.size = w1.heap.size + 1 := by simp
  generalize hw2 : w1.alloc (.cells #[.slice A n c] 86) = w2 at *
  clear hw2
  refine range_own (α := Nat × Lk) (xs := backs ls) (encs := backEnc) (Kp := fun k => k = w1.heap.size ∨ (Value.slice A n c).ownBlock = some k) (Nat.le_refl 1) rfl (fun _ _ => by kernel_rfl)
    (fun Wn hn _ => back_iter Wn w1.heap.size (.slice A n c) ls _ (row_only (S := NoneOf) hr2 hn (fun _ _ h => h)) h.vals h.few ((hn.cell (p := ⟨w1.heap.size, 0, none⟩) (by show w1.heap.size < _; omega) (fun h => h)).trans hbs2) (.inl rfl) (fun g hg => .inr hg))
    (fun _ => rfl) (fun {k} hk hh => by
      rcases hh with hh | hh
      · omega
      · have := (hg1 k hh).2; omega)
    (fun E pre B => J E (pre.map Prod.snd) B ∧ W.heap.size + 1 ≤ E ∧ Blk B W.heap.size 119 #[.func (.yield l) #[] #[]])
    (fun cd E pre B => cd = .ret ∧ W.heap.size + 1 ≤ E ∧ Jx E (pre.map Prod.snd) B)
    (fun E pre A B hs ho => ⟨HJ.out E _ A B hs.1 (ho.mono fun k _ hk => ⟨by have := hk.1; omega, hk.2⟩), hs.2.1, hs.2.2.only ho (fun hk => by have := hk.1; omega)⟩)
    (fun cd E pre A B hs ho => ⟨hs.1, hs.2.1, HJx.out E _ A B hs.2.2 (ho.mono fun k _ hk => ⟨by have := hk.1; omega, hk.2⟩)⟩)
    (fun E B hE hB ho => ⟨H0.out E B (by omega) hB (hW2.trans ho), by omega, hyb2.only ho (fun h => h)⟩)
    (fun x a' B => ∃ b, w2.heap.size + 2 ≤ b ∧ Blk B b 92 x.2.cells.toArray ∧ a' = { tmps := #[.func (.yield l) #[] #[], .pointer (some ⟨bc, 0, none⟩), .pointer (some ⟨W.heap.size, 0, none⟩), undef, .pointer (some ⟨b, 0, none⟩), .pointer (some ⟨p, 0, none⟩), .bool false, .pointer (some ⟨p, 0, none⟩), .pointer (some ⟨p, 0, none⟩), .pointer (some ⟨p, 0, none⟩), v, .slice A n c, .func (.func 70) #[] #[.pointer (some ⟨w1.heap.size, 0, none⟩)], .int .i64 x.1, .agg x.2.cells.toArray, undef, undef, undef, undef], defers := [] })
    (fun x a' A B hs ho => by obtain ⟨b, hb, hB, ha⟩ := hs; exact ⟨b, hb, hB.only ho (by omega), ha⟩)
    ?assign ?body ?done ?stop
  case assign =>
    rintro ⟨i, l0⟩ Wa K hx hsz hK
    have hl0 : l0 ∈ ls := by
      have : (i, l0).2 ∈ (backs ls).map (·.2) := List.mem_map_of_mem hx
      rw [backs_snd] at this
      simpa using this
    obtain ⟨y, hy⟩ := h.vals l0 hl0
    obtain ⟨st, val, dead⟩ := l0
    simp only at hy
    subst hy
    simp only [backEnc, Lk.cells] at hK ⊢
    gi_wp2
    exact hK _ _ ((Only.refl _ _).alloc _) ⟨_, hsz, Blk.new _ _ _, rfl⟩
  case body =>
    rintro E pre ⟨i, l0⟩ a' Wb _ hE hEW hpre ⟨hJb, hE1, hYb⟩ ⟨b, hb, hB, rfl⟩
    have hl0 : l0 ∈ ls := by
      have : (i, l0).2 ∈ (backs ls).map (·.2) := List.mem_map_of_mem (hpre.subset (by simp))
      rw [backs_snd] at this
      simpa using this
    have hpre2 : pre.map Prod.snd ++ [l0] <+: ls.reverse := by
      have := hpre.map Prod.snd
      rw [show (backs ls).map Prod.snd = ls.reverse from backs_snd ls] at this
      simpa using this
    have hYld := HY.out E (pre.map Prod.snd) l0 Wb (by omega) hEW hJb hpre2
    obtain ⟨y, hy0⟩ := h.vals l0 hl0
    obtain ⟨st, val, dead⟩ := l0
    simp only at hy0
    subst hy0
    obtain ⟨fn, tmps, assign, body, hy, hR⟩ := YieldAt.deep 0 hYld
    simp only [linkEnc, Lk.cells] at hy
    have HRR := Lib.hid hR
    have y0 := hYb.cellv 0 rfl
    have b0 : Wb.cell? ⟨b, 0, none⟩ = some (.int .i64 st) := hB.cellv 0 rfl
    have b1 : Wb.cell? ⟨b, 1, none⟩ = some (Value.slice y.1 y.2.1 y.2.2) := hB.cellv 1 rfl
    have b2 : Wb.cell? ⟨b, 2, none⟩ = some (.bool dead) := hB.cellv 2 rfl
    have hE' : W.heap.size < E := by omega
    clear hR hYld hpre2 hl0 hJb
    gi_wp2
    refine ⟨rfl, RoundIn.mono (F := Fence.wide.inRound _) HRR.out ?_⟩
    rintro e W3 (⟨rfl, hJ3, ho3⟩ | ⟨rfl, hJx3, ho3⟩)
    · have hfin : Only (Theirs w2.heap.size E fun k => k = w1.heap.size ∨ (Value.slice A n c).ownBlock = some k) Wb W3 := ho3.mono fun k _ hk => by
        rcases hk with hk | hk
        · refine .inl ⟨by omega, fun hh => ?_⟩
          rcases hh with hh | hh
          · omega
          · have := (hg1 k hh).1; omega
        · exact .inr hk
      have hY3 : Blk W3 W.heap.size 119 #[.func (.yield l) #[] #[]] := hYb.only ho3 (fun hk => by rcases hk with hk | hk <;> omega)
      have HJ3 := Lib.hid hJ3
      have HF := Lib.hid hfin
      clear hJ3 hfin hy y0 b0 b1 b2
      gi_wp2
      exact ⟨HF.out, by simpa using HJ3.out, hE1, hY3⟩
    · skip
      have hfin : Only (Theirs w2.heap.size E fun k => k = w1.heap.size ∨ (Value.slice A n c).ownBlock = some k) Wb W3 := ho3.mono fun k _ hk => by
        rcases hk with hk | hk
        · refine .inl ⟨by omega, fun hh => ?_⟩
          rcases hh with hh | hh
          · omega
          · have := (hg1 k hh).1; omega
        · exact .inr hk
      have HF := Lib.hid hfin
      have HJ3 := Lib.hid hJx3
      clear hJx3 hfin hy y0 b0 b1 b2
      gi_wp2
      exact ⟨HF.out, rfl, hE1, by simpa using HJ3.out⟩
  case done =>
    rintro E Wd hE ⟨hJd, _, _⟩ hD
    have hRev : (backs ls).map Prod.snd = ls.reverse := backs_snd ls
    rw [hRev] at hJd
    have HJd := Lib.hid hJd
    clear hJd hRev
    gi_wp2
    refine ⟨by simp, .inl ⟨_, _, rfl, run_takeDeferred hD, ?_⟩⟩
    exact ⟨_, results_none rfl _ _ _, ⟨_, rfl⟩, E, by omega, .inl (HJ.out E _ _ _ HJd.out ((Only.refl _ _).putObj (.inl ⟨by omega, by omega⟩) _))⟩
  case stop =>
    rintro E cd pre Wd hE hpre ⟨rfl, _, hJd⟩ hD
    have hpre2 : pre.map Prod.snd <+: ls.reverse := by
      have := hpre.map Prod.snd
      rw [show (backs ls).map Prod.snd = ls.reverse from backs_snd ls] at this
      exact this
    have HJd := Lib.hid hJd
    clear hJd
    gi_wp2
    refine ⟨by simp, .inl ⟨_, _, rfl, run_takeDeferred hD, ?_⟩⟩
    exact ⟨_, results_none rfl _ _ _, ⟨_, rfl⟩, E, by omega, .inr ⟨_, hpre2, HJx.out E _ _ _ HJd.out ((Only.refl _ _).putObj (.inl ⟨by omega, by omega⟩) _)⟩⟩

end Cb
end Go.Proofs.Ytnonnencdhogiaa

/-
  A region in a round of a range over a function: what holds of it outside a round holds of it there, where no operation defers.
-/
namespace Go.Proofs.Ytnonnencdhogiaa
open Go.RowKit

def noDefers (l : List Oper) : Bool := l.all fun o => match o.op with | .defer _ => false | _ => true

section
variable {P : Program} {ops : Array Oper} {n r : Nat} {Q : Exit → Act → World → Prop} {md : Region.Mode}

theorem noDefers_spec {l : List Oper} (h : noDefers l = true) {o : Oper} (ho : o ∈ l) : ∀ c, o.op ≠ .defer c := by
  intro c hc
  have := List.all_eq_true.1 h o ho
  rw [hc] at this
  cases this

theorem rowsIn_round {row : String} {args : Array Value} {w : World} {R : Value → World → Prop} (h : Rows P row args w R) : RowsIn (Fence.wide.inRound r) n P row args w R :=
  fun c cs _ => let ⟨v, w', hr, s⟩ := h c cs; ⟨v, w', hr, by rw [fenced_inRound]; exact stepsIn_wide.2 s⟩

theorem wpIn_of_wp_round {o : Oper} {a : Act} {w : World} {K : Act → World → Prop} (hnd : ∀ c, o.op ≠ .defer c) (h : o.wp P a w K Q) : o.wpIn (Fence.wide.inRound r) n P a w K Q := by
  unfold Oper.wp at h
  unfold Oper.wpIn
  refine ⟨fun _ _ => trivial, ?_⟩
  rw [Oper.semAt_eq _ _ _ hnd]
  generalize (execOp a.eval o).run P w = res at *
  cases res with
  | ok x w' =>
    cases x <;> simp only [Oper.upon] at h <;> simp only [Oper.uponIn]
    case value u => exact h
    case skip => exact h
    case defer d => exact h
    case enter f args => exact ⟨fun hd => (by cases hd), (callsIn_wide.2 h).inRound r⟩
    case row f args => exact ⟨fun hd => (by cases hd), rowsIn_round h⟩
  | halt x w' => cases x <;> simp only [Oper.upon] at h <;> simp only [Oper.uponIn]; exact h

theorem wpListIn_of_wpList : ∀ {l : List Oper} {a : Act} {w : World} (_ : noDefers l = true) (_ : ¬ LetsOut Q) (_ : wpList P ops Q l a w), wpListIn (Fence.wide.inRound r) n P ops Q l a w
  | [], _, _, _, _, h => h
  | o :: l, a, w, hnd, hlo, h => by
    have hl : noDefers l = true := by
      unfold noDefers at hnd ⊢
      rw [List.all_cons, Bool.and_eq_true] at hnd
      exact hnd.2
    unfold wpListIn
    unfold wpList at h
    split
    · rename_i hw
      rw [if_pos hw] at h
      rcases h with h | h
      · exact wpIn_of_wp_round (noDefers_spec hnd (by simp)) (Oper.wp_mono (fun a w h => wpListIn_of_wpList hl hlo h) h)
      · exact absurd h.2 hlo
    · rename_i hw
      rw [if_neg hw] at h
      exact ⟨fun _ _ => trivial, wpListIn_of_wpList hl hlo h⟩

theorem wpIn_region_of_list {id : Nat} {l : List Oper} {a : Act} {w : World} (hnd : noDefers l = true) (hlo : ¬ LetsOut Q) (h : wpList P l.toArray Q l a w) : (Code.region id l.toArray false).wpIn (Fence.wide.inRound r) n P Q a w :=
  wpIn_region_lit (wpListIn_of_wpList hnd hlo h)

theorem wpOpIn_of_wpOp {i : Nat} {a : Act} {w : World} {K : Act → World → Prop} (hnd : noDefers ops.toList = true) (hlo : ¬ LetsOut Q) (h : wpOp P ops Q i K a w) : wpOpIn (Fence.wide.inRound r) n P ops Q i K a w := by
  unfold wpOp at h
  unfold wpOpIn
  split
  · rename_i ho; simp only [ho] at h; exact h
  · rename_i o ho
    simp only [ho] at h
    split
    · rename_i hw
      rw [if_pos hw] at h
      rcases h with h | h
      · exact wpIn_of_wp_round (noDefers_spec hnd (by rw [Array.mem_toList_iff]; exact Array.mem_of_getElem? ho)) h
      · exact absurd h.2 hlo
    · rename_i hw
      rw [if_neg hw] at h
      exact ⟨fun _ _ => trivial, h⟩

theorem wpAnyIn_of_wpAny (hnd : noDefers ops.toList = true) (hlo : ¬ LetsOut Q) : ∀ (fuel : Nat) (listed : Array Bool) (a : Act) (w : World), wpAny P md ops Q fuel listed a w → wpAnyIn (Fence.wide.inRound r) n P md ops Q fuel listed a w
  | 0, _, _, _, h => h
  | fuel + 1, _, _, _, h => ⟨h.1, fun i hi => wpOpIn_of_wpOp hnd hlo (wpOp_mono (fun a w h => wpAnyIn_of_wpAny hnd hlo fuel _ a w h) (h.2 i hi))⟩

/-- A region that draws its order, in a round. -/
theorem wpIn_region_head {id : Nat} {l : List Oper} {a0 : Act} {W : World} (k m : Nat) (T : Nat → Value → World → Prop) (al : Nat → Bool) (hsz : a0.tmps.size = m) (hm : P.follows .mixedOrders = true) (hB : regionB l.toArray k m = true)
    (hnd : noDefers l = true) (hlo : ¬ LetsOut Q)
    (hT : ∀ i v w w', T i v w → Only NoneOf w w' → T i v w') (hal : ∀ i v w, al i = true → T i v w → ∃ b, v = .pointer (some ⟨b, 0, none⟩) ∧ b < w.heap.size)
    (hstep : ∀ i o, i < k → l[i]? = some o → ∀ a w, Aft W w → (∀ s, (∀ j, j < k → dstOf l.toArray j ≠ s) → a.tmps.getD s undef = a0.tmps.getD s undef) →
      (∀ j, j < k → Region.waitsFor .any l.toArray i j = true → T j (a.tmps.getD (dstOf l.toArray j) undef) w) → o.wp P a w (Left T al i o a w) Q)
    (hend : ∀ (V : Nat → Value) w, Aft W w → (∀ i, i < k → T i (V i) w) → (∀ i j, i < k → j < k → i ≠ j → al i = true → al j = true → V i ≠ V j) → wpList P l.toArray Q (l.drop k) (endFrame l.toArray k a0 V) w) :
    (Code.region id l.toArray true).wpIn (Fence.wide.inRound r) n P Q a0 W :=
  wpIn_region_any hm (wpAnyIn_of_wpAny hnd hlo _ _ _ _ (head_any k m T al hsz hB hT hal hstep hend))
end
end Go.Proofs.Ytnonnencdhogiaa

/-
  Layer 14: slices.Collect over a chain's walk.
-/
namespace Go.Proofs.Ytnonnencdhogiaa
open Go.RowKit Go.Shelf
open Cb (ChIs Foot linkEnc row_only row_base IsV)
attribute [local go_sem] Oper.semAt_some

theorem row_zone {B E : Nat} {A A' : World} {v : Value} {n : Nat} {xs : List Value} (h : A.ownsRow E 92 3 v n xs) (ho : Only (Ours B E) A A') : A'.ownsRow E 92 3 v n xs := by
  refine ⟨h.1, ?_⟩
  rcases h.2 with h0 | ⟨g, cap, cur, hv, hb, hh, r⟩
  · exact .inl h0
  · exact .inr ⟨g, cap, cur, hv, hb, Blk.only (t := 92) (cs := cur) hh ho (fun hk => by have := hk.2; omega), r⟩

/-- What Collect answers. -/
def CollPost (xs : List Lk) (w : World) (e : Ending) (w' : World) : Prop :=
  ∃ v', e = .returned v' ∧ w'.ownsRow 0 92 3 v' xs.length (flat xs) ∧ Only NoneOf w w' ∧ ∀ g, v'.ownBlock = some g → w.heap.size ≤ g

set_option maxRecDepth 100000 in
set_option maxHeartbeats 2000000 in
theorem append_links (w : World) (bc : Nat) (xs : List Lk) (hv : ∀ l ∈ xs, IsV l.val) (hfew : xs.length ≤ 3518437208800)
    (hit : ∀ W, Only NoneOf w W → Iter Try.prog 69 #[.pointer (some ⟨bc, 0, none⟩)] linkEnc xs NoneOf W) :
    Calls Try.prog 68 #[.slice none 0 0, .func (.func 69) #[] #[.pointer (some ⟨bc, 0, none⟩)]] w (CollPost xs w) := by
  have HIT := Lib.hid hit
  clear hit
  refine callsIn_wide (n := 1).1 (callsIn_of_wp_marks Try.func68 rfl trivial ?_ rfl)
  simp only [Try.ntmps68, List.size_toArray, List.length_cons, List.length_nil, Nat.reduceAdd, Nat.reduceSub, Array.replicate_succ, Array.replicate_zero, List.push_toArray, List.append_toArray, List.nil_append, List.cons_append]
  gi_wp2_with fail
  have hW2 : Only NoneOf w (w.alloc (.cells #[.slice none 0 0] 86)) := (Only.refl _ _).alloc _
  have hob := Blk.new w 86 #[.slice none 0 0]
  obtain ⟨i0, hi, hz0, hz1, hz3⟩ := info_parts Cb.infoL
  have hz2 : (w.alloc (.cells #[.slice none 0 0] 86)).heap.size = w.heap.size + 1 := by simp
  generalize hw2 : w.alloc (.cells #[.slice none 0 0] 86) = w2 at *
  clear hw2
  refine range_own (α := Lk) (xs := xs) (encs := linkEnc) (Kp := NoneOf) (Nat.le_refl 1) rfl (fun _ _ => by kernel_rfl)
    (fun Wn hn _ => HIT.out Wn (hW2.trans hn)) (fun _ => rfl) (fun {k} _ hh => hh)
    (fun E pre B => w2.heap.size + 2 ≤ E ∧ Only NoneOf w B ∧ ∃ v, Blk B w.heap.size 86 #[v] ∧ B.ownsRow E 92 3 v pre.length (flat pre))
    (fun cd E pre B => False)
    (fun E pre A B hs ho => by
      obtain ⟨h1, h3, v, h5, h6⟩ := hs
      exact ⟨h1, h3.step ho (fun k hk hh => by have := hh.1; omega), v, h5.only ho (fun hh => by have := hh.1; omega), row_zone h6 ho⟩)
    (fun cd E pre A B hs ho => hs)
    (fun E B hE hB ho => ⟨hE, hW2.trans ho, _, hob.only ho (fun h => h), rfl, .inl ⟨rfl, rfl⟩⟩)
    (fun x a' B => ∃ b, w2.heap.size + 2 ≤ b ∧ Blk B b 92 x.cells.toArray ∧ a' = { tmps := #[.slice none 0 0, .func (.func 69) #[] #[.pointer (some ⟨bc, 0, none⟩)], .pointer (some ⟨w.heap.size, 0, none⟩), undef, .slice none 0 0, .pointer (some ⟨b, 0, none⟩), .func (.func 69) #[] #[.pointer (some ⟨bc, 0, none⟩)], .agg x.cells.toArray, undef, undef, undef, undef, undef], defers := [] })
    (fun x a' A B hs ho => by obtain ⟨b, hb, hB, ha⟩ := hs; exact ⟨b, hb, hB.only ho (by omega), ha⟩)
    ?assign ?body ?done ?stop
  case assign =>
    rintro l0 Wa K hx hsz hK
    obtain ⟨y, hy⟩ := hv l0 hx
    obtain ⟨st, val, dead⟩ := l0
    simp only at hy
    subst hy
    simp only [linkEnc, Lk.cells] at hK ⊢
    gi_wp2
    exact hK _ _ ((Only.refl _ _).alloc _) ⟨_, hsz, Blk.new _ _ _, rfl⟩
  case body =>
    rintro E pre l0 a' Wb _ hE hEW hpre ⟨_, hO, v, hV, hR⟩ ⟨b, hb, hB, rfl⟩
    have hl0 : l0 ∈ xs := hpre.subset (by simp)
    have hpl : pre.length + 1 ≤ xs.length := by have := hpre.length_le; simpa using this
    obtain ⟨y, hy0⟩ := hv l0 hl0
    obtain ⟨st, val, dead⟩ := l0
    simp only at hy0
    subst hy0
    have V0 := hV.cellv 0 rfl
    have V1 := hV.free 0
    have b0 : Wb.cell? ⟨b, 0, none⟩ = some (.int .i64 st) := hB.cellv 0 rfl
    have b1 : Wb.cell? ⟨b, 1, none⟩ = some (.slice y.1 y.2.1 y.2.2) := hB.cellv 1 rfl
    have b2 : Wb.cell? ⟨b, 2, none⟩ = some (.bool dead) := hB.cellv 2 rfl
    have hVlt := hV.lt
    have hN := Blk.new Wb 92 #[.int .i64 st, .slice y.1 y.2.1 y.2.2, .bool dead]
    have hRb := row_base hR
    have hOA := Lib.hid (hO.alloc (.cells #[.int .i64 st, .slice y.1 y.2.1 y.2.2, .bool dead] 92))
    have hVA := hV.alloc (.cells #[.int .i64 st, .slice y.1 y.2.1 y.2.2, .bool dead] 92)
    clear hl0 hpre
    gi_wp2_with (gi_at_builtin; refine wpListIn_append_own _ rfl (.tmp 8) (.tmp 10) 86 rfl E 92 i0 _ 3 40 Try.underlying86 hi hz0 hz1 hz3 rfl (by decide) v pre.length (flat pre) rfl (row_only (S := NoneOf) hR ((Only.refl _ _).alloc _) (fun _ _ h => h)) ⟨Wb.heap.size, 0, none⟩ 1 1 [.int .i64 st, .slice y.1 y.2.1 y.2.2, .bool dead] rfl rfl (World.news_of_block hN) (by simp [Value.oneCell']) (by unfold maxLen; omega) (by omega) (by simp; omega) ?_; intro v' w3 hown' hgr _; obtain ⟨g', cap', rfl⟩ := ownsRow_succ hown'; have hV3 := hVA.only (only_grown hgr) (fun e => by have := hRb.2 _ e; omega); have x0 := hV3.cellv 0 rfl; have x1 := hV3.free 0)
    have fin : Only (Theirs w2.heap.size E NoneOf) Wb (w3.setCell ⟨w.heap.size, 0, none⟩ (.slice (some ⟨g', 0, none⟩) (pre.length + 1) cap')) := Only.put (Only.step ((Only.refl _ _).alloc _) (only_grown hgr) (fun k _ e => .inr (hRb.2 _ e))) (.inl (.inl ⟨by simp; omega, fun h => h⟩)) _
    have fin2 : Only NoneOf w (w3.setCell ⟨w.heap.size, 0, none⟩ (.slice (some ⟨g', 0, none⟩) (pre.length + 1) cap')) := Only.put (hOA.out.step (only_grown hgr) (fun k hk e => by have := hRb.2 _ e; omega)) (.inr (by simp)) _
    have fin3 : (w3.setCell ⟨w.heap.size, 0, none⟩ (.slice (some ⟨g', 0, none⟩) (pre.length + 1) cap')).ownsRow E 92 3 (.slice (some ⟨g', 0, none⟩) (pre.length + 1) cap') (pre ++ [(⟨st, .slice y.1 y.2.1 y.2.2, dead⟩ : Lk)]).length (flat (pre ++ [⟨st, .slice y.1 y.2.1 y.2.2, dead⟩])) := by
      rw [flat_append, flat_one, List.length_append]
      exact row_only (S := (· = w.heap.size)) hown' (Only.put (S := (· = w.heap.size)) (Only.refl _ w3) (.inl rfl) _) (fun g hg e => by have := (row_base hown').2 g hg; omega)
    exact ⟨fin, by omega, fin2, _, hV3.put 0 _, fin3⟩
  case done =>
    rintro E Wd hE ⟨_, hO, v, hV, hR⟩ hD
    have V0 := hV.cellv 0 rfl
    have hRb := row_base hR
    gi_wp2
    refine ⟨by simp, .inl ⟨_, _, rfl, run_takeDeferred hD, ?_⟩⟩
    have hP : Only (· = w2.heap.size) Wd (Wd.putObj w2.heap.size (.deferred none)) := Only.putObj (S := (· = w2.heap.size)) (Only.refl _ _) (.inl rfl) _
    exact ⟨_, results_tmp rfl _ _ _, v, rfl, row_only hRb.1 hP (fun g hg e => by have := hRb.2 g hg; omega), hO.step hP (fun k hk e => by omega), fun g hg => by have := hRb.2 g hg; omega⟩
  case stop =>
    rintro E cd pre Wd hE hpre h
    exact h.elim

set_option maxHeartbeats 1000000 in
theorem collect_is (w : World) (bc : Nat) (xs : List Lk) (hv : ∀ l ∈ xs, IsV l.val) (hfew : xs.length ≤ 3518437208800)
    (hit : ∀ W, Only NoneOf w W → Iter Try.prog 69 #[.pointer (some ⟨bc, 0, none⟩)] linkEnc xs NoneOf W) :
    Calls Try.prog 50 #[.func (.func 69) #[] #[.pointer (some ⟨bc, 0, none⟩)]] w (CollPost xs w) := by
  have H := Lib.hid (append_links w bc xs hv hfew hit)
  clear hit
  go_enter Try.func50, Try.ntmps50
  go_wp2_with fail
  refine H.out.mono ?_; rintro e w1 ⟨v, rfl, h⟩
  go_wp2_with fail
  go_ret
  exact ⟨v, rfl, h⟩

/-- A chain's links, collected: the newest one first. -/
theorem collect_chain (w : World) (bc p : Nat) (v : Value) (ls : List Lk) (h : ChIs w p v ls) (hbc : w.cell? ⟨bc, 0, none⟩ = some (.pointer (some ⟨p, 0, none⟩))) :
    Calls Try.prog 50 #[.func (.func 69) #[] #[.pointer (some ⟨bc, 0, none⟩)]] w (CollPost ls.reverse w) :=
  collect_is w bc ls.reverse (fun l hl => h.vals l (by simpa using hl)) (by have := h.few; simpa using this)
    (fun W ho => Cb.all_iter W bc p v ls (h.keep ho) ((ho.cell (p := ⟨bc, 0, none⟩) (World.block_lt_of_cell? _ _ hbc) (fun h => h)).trans hbc))

end Go.Proofs.Ytnonnencdhogiaa

/-
  Layer 14: lists of versions in memory; how a function with many ranges over functions is left.
-/
namespace Go.Proofs.Ytnonnencdhogiaa
open Go.RowKit Go.Shelf
open Cb (ChIs Foot linkEnc row_base IsV)

/-- a version as a list of versions holds it -/
structure VRow where
  key : ByteArray
  st : Int
  val : Value
  bs : List UInt8
  dead : Bool
def VRow.cells (r : VRow) : List Value := [.string r.key, .int .i64 r.st, r.val, .bool r.dead]
def VRow.plain (r : VRow) : ByteArray × Ver := (r.key, ⟨r.st, r.bs, r.dead⟩)
abbrev vflat (rs : List VRow) : List Value := rs.flatMap VRow.cells

theorem vflat_length (rs : List VRow) : (vflat rs).length = rs.length * 4 := by
  induction rs with
  | nil => rfl
  | cons r rs ih => simp only [vflat, List.flatMap_cons, List.length_append, List.length_cons, VRow.cells, List.length_nil] at ih ⊢; omega

/-- a list of versions that is its own, each value a row of its own -/
structure VRows (w : World) (base : Nat) (v : Value) (rs : List VRow) : Prop where
  own : w.ownsRow base 27 4 v rs.length (vflat rs)
  val : ∀ r ∈ rs, RowB w base r.val r.bs
  apart : ∀ r ∈ rs, ∀ g, v.ownBlock = some g → r.val.ownBlock ≠ some g
  dist : rs.Pairwise fun a b => ∀ g, a.val.ownBlock = some g → b.val.ownBlock ≠ some g
/-- its blocks -/
def VBlocks (v : Value) (rs : List VRow) (k : Nat) : Prop := v.ownBlock = some k ∨ ∃ r ∈ rs, r.val.ownBlock = some k

theorem ownsRow_only {w w' : World} {base n sz : Nat} {t : TypeId} {v : Value} {xs : List Value} {S : Nat → Prop} (h : w.ownsRow base t sz v n xs) (ho : Only S w w') (hS : ∀ g, v.ownBlock = some g → ¬ S g) : w'.ownsRow base t sz v n xs := by
  refine ⟨h.1, ?_⟩
  rcases h.2 with h0 | ⟨g, cap, cur, hv, hb, hh, r⟩
  · exact .inl h0
  · exact .inr ⟨g, cap, cur, hv, hb, Blk.only (t := t) (cs := cur) hh ho (hS g (by rw [hv]; rfl)), r⟩
theorem ownsRow_lt {w : World} {base n sz : Nat} {t : TypeId} {v : Value} {xs : List Value} (h : w.ownsRow base t sz v n xs) {g : Nat} (hg : v.ownBlock = some g) : base ≤ g ∧ g < w.heap.size := by
  rcases h.2 with ⟨rfl, _⟩ | ⟨g', cap, cur, rfl, hb, hh, _⟩
  · simp [Value.ownBlock] at hg
  · have : g' = g := by simpa [Value.ownBlock] using hg
    subst this
    exact ⟨hb, Blk.lt (t := t) (cs := cur) hh⟩
theorem RowB.only {w w' : World} {S : Nat → Prop} {B : Nat} {v : Value} {l : List UInt8} (h : RowB w B v l) (ho : Only S w w') (hS : ∀ g, v.ownBlock = some g → ¬ S g) : RowB w' B v l := ownsRow_only h ho hS

theorem VRows.lt {w : World} {base : Nat} {v : Value} {rs : List VRow} (h : VRows w base v rs) {k : Nat} (hk : VBlocks v rs k) : base ≤ k ∧ k < w.heap.size := by
  rcases hk with hk | ⟨r, hr, hk⟩
  · exact ownsRow_lt h.own hk
  · exact ownsRow_lt (h.val r hr) hk
theorem VRows.only {w w' : World} {S : Nat → Prop} {base : Nat} {v : Value} {rs : List VRow} (h : VRows w base v rs) (ho : Only S w w') (hS : ∀ k, VBlocks v rs k → ¬ S k) : VRows w' base v rs :=
  ⟨ownsRow_only h.own ho (fun g hg => hS g (.inl hg)), fun r hr => (h.val r hr).only ho (fun g hg => hS g (.inr ⟨r, hr, hg⟩)), h.apart, h.dist⟩
theorem VRows.nil (w : World) (base : Nat) : VRows w base (.slice none 0 0) [] := ⟨⟨rfl, .inl ⟨rfl, rfl⟩⟩, fun _ h => (by cases h), fun _ h => (by cases h), List.Pairwise.nil⟩

/-- A row more. -/
theorem VRows.snoc {w w' : World} {base : Nat} {v v' : Value} {rs : List VRow} {r : VRow} (h : VRows w base v rs) (ho : Only (fun k => v.ownBlock = some k) w w')
    (hown : w'.ownsRow base 27 4 v' (rs.length + 1) (vflat rs ++ r.cells)) (hat : v'.ownBlock = v.ownBlock ∨ ∃ g, v'.ownBlock = some g ∧ w.heap.size ≤ g) (hr : RowB w base r.val r.bs)
    (hnew : ∀ g, r.val.ownBlock = some g → ¬ VBlocks v rs g) :
    VRows w' base v' (rs ++ [r]) := by
  have hb : ∀ x ∈ rs ++ [r], RowB w base x.val x.bs ∧ ∀ g, v.ownBlock = some g → x.val.ownBlock ≠ some g := fun x hx => by
    rcases List.mem_append.1 hx with hx | hx
    · exact ⟨h.val x hx, h.apart x hx⟩
    · obtain rfl : x = r := by simpa using hx
      exact ⟨hr, fun g hg e => hnew g e (.inl hg)⟩
  refine ⟨by rw [List.length_append]; simpa using hown, fun x hx => ?_, fun x hx g hg e => ?_, ?_⟩
  · exact (hb x hx).1.only ho (fun g hg e => (hb x hx).2 g e hg)
  · rcases hat with hat | ⟨g', hg', hge⟩
    · rw [hat] at hg
      exact (hb x hx).2 g hg e
    · rw [hg'] at hg
      cases hg
      have := (ownsRow_lt (hb x hx).1 e).2
      omega
  · rw [List.pairwise_append]
    refine ⟨h.dist, List.pairwise_singleton _ _, fun a ha b hb' g hg e => ?_⟩
    obtain rfl : b = r := by simpa using hb'
    exact hnew g e (.inr ⟨a, ha, hg⟩)
theorem vblocks_snoc {v v' : Value} {rs : List VRow} {r : VRow} {k n : Nat} (hat : v'.ownBlock = v.ownBlock ∨ ∃ g, v'.ownBlock = some g ∧ n ≤ g) (h : VBlocks v' (rs ++ [r]) k) : VBlocks v rs k ∨ r.val.ownBlock = some k ∨ n ≤ k := by
  rcases h with h | ⟨x, hx, h⟩
  · rcases hat with e | ⟨g, hg, hge⟩
    · exact .inl (.inl (e ▸ h))
    · rw [hg] at h
      cases h
      exact .inr (.inr hge)
  · rcases List.mem_append.1 hx with hx | hx
    · exact .inl (.inr ⟨x, hx, h⟩)
    · obtain rfl : x = r := by simpa using hx
      exact .inr (.inl h)

/-- The marks of ranges over functions that are behind us: open, each a block of its own, from B on and below H. -/
def Marks (B H : Nat) (w : World) : List Deferred → Prop
  | [] => True
  | d :: ds => (∃ r, d.target = .collected r ∧ B ≤ r ∧ r < H ∧ w.heap[r]? = some (.deferred (some [])) ∧ ∀ d' ∈ ds, d'.target ≠ .collected r) ∧ Marks B H w ds

theorem Marks.only {S : Nat → Prop} {B H : Nat} {w w' : World} (ho : Only S w w') (hS : ∀ k, B ≤ k → k < H → w.heap[k]? = some (.deferred (some [])) → ¬ S k) : ∀ {ds : List Deferred}, Marks B H w ds → Marks B H w' ds
  | [], _ => trivial
  | _ :: _, ⟨⟨r, h1, h2, h2', h3, h4⟩, h⟩ => ⟨⟨r, h1, h2, h2', (ho.block r (Array.getElem?_eq_some_iff.1 h3).1 (hS r h2 h2' h3)).trans h3, h4⟩, h.only ho hS⟩
theorem Marks.up {B H H' : Nat} {w : World} (hH : H ≤ H') : ∀ {ds : List Deferred}, Marks B H w ds → Marks B H' w ds
  | [], _ => trivial
  | _ :: _, ⟨⟨r, h1, h2, h2', h3, h4⟩, h⟩ => ⟨⟨r, h1, h2, Nat.lt_of_lt_of_le h2' hH, h3, h4⟩, h.up hH⟩
theorem Marks.lt {B H : Nat} {w : World} : ∀ {ds : List Deferred}, Marks B H w ds → ∀ d ∈ ds, ∃ r, d.target = .collected r ∧ r < H
  | _ :: _, ⟨⟨r, h1, _, h3, _⟩, h⟩, d, hd => by
    rcases List.mem_cons.1 hd with rfl | hd
    · exact ⟨r, h1, h3⟩
    · exact h.lt d hd
/-- A mark more. -/
theorem Marks.cons {B H r : Nat} {w : World} {ds : List Deferred} (h : Marks B r w ds) (hr : w.heap[r]? = some (.deferred (some []))) (hB : B ≤ r) (hH : r < H) : Marks B H w ({ target := .collected r, args := #[] } :: ds) :=
  ⟨⟨r, rfl, hB, hH, hr, fun d hd e => by
    obtain ⟨r', h1, h2⟩ := h.lt d hd
    rw [h1] at e
    cases e
    omega⟩, h.up (by omega)⟩

/-- A function is left with its marks. -/
theorem leaves_marks {n B H : Nat} {P : Program} {fn : Func} {tmps : Array Value} {R : Ending → World → Prop} : ∀ {ds : List Deferred} {w : World}, Marks B H w ds →
    (∀ w', Only (fun k => B ≤ k ∧ ∃ o, w.heap[k]? = some (.deferred o)) w w' → LeavesIn Fence.wide n P fn tmps R [] .returning w') → LeavesInM Fence.wide n P fn tmps R ds .returning w
  | [], _, _, h => h _ (Only.refl _ _)
  | d :: ds, w, ⟨⟨r, h1, h2, _, h3, h4⟩, hm⟩, h => by
    have ho : Only (· = r) w (w.putObj r (.deferred none)) := Only.putObj (S := (· = r)) (Only.refl _ _) (.inl rfl) _
    refine ⟨by simp, .inl ⟨r, _, h1, run_takeDeferred h3, leaves_marks (B := B) (H := H) (ds := ds) ?_ fun w' ho' => h w' ?_⟩⟩
    · have key : ∀ (ds : List Deferred), (∀ d' ∈ ds, d'.target ≠ .collected r) → Marks B H w ds → Marks B H (w.putObj r (.deferred none)) ds := by
        intro ds
        induction ds with
        | nil => intro _ _; trivial
        | cons d' ds ih =>
          intro hne ⟨⟨r', a1, a2, a2', a3, a4⟩, hm'⟩
          have hrr : r' ≠ r := fun e => hne d' (by simp) (by rw [a1, e])
          exact ⟨⟨r', a1, a2, a2', (ho.block r' (Array.getElem?_eq_some_iff.1 a3).1 hrr).trans a3, a4⟩, ih (fun x hx => hne x (by simp [hx])) hm'⟩
      exact key ds h4 hm
    · refine Only.trans (ho.mono fun k _ e => ?_) (ho'.mono fun k _ hk => ?_)
      · subst e
        exact ⟨h2, _, h3⟩
      · obtain ⟨hk1, o, hko⟩ := hk
        by_cases e : k = r
        · subst e
          exact ⟨hk1, _, h3⟩
        · rw [World.putObj_heap_other e] at hko
          exact ⟨hk1, o, hko⟩

end Go.Proofs.Ytnonnencdhogiaa

