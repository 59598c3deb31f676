/-
  Layer 14: a store and what its chains hold; weight, Newest, Get.
-/
import Derived.Test.YtnonnencdhogiaaS3
namespace Go.Proofs.Ytnonnencdhogiaa
open Go.RowKit
open Cb (ChIs Foot TellPost zeroLk)

/-- a version of a key -/
structure Ver where
  st : Int
  bs : List UInt8
  dead : Bool

/-- the blocks that a store turns -/
def Ter (s m : Nat) (C : ByteArray → Option Ch) (k : Nat) : Prop := k = s ∨ k = m ∨ ∃ key c, C key = some c ∧ Foot c.1 c.2.1 k
/-- .. and the blocks U besides -/
def TerU (s m : Nat) (C : ByteArray → Option Ch) (U : Nat → Prop) (k : Nat) : Prop := Ter s m C k ∨ U k
/-- a link holds a version, its bytes apart from what the store turns -/
def Holds (w : World) (T : Nat → Prop) (l : Lk) (x : Ver) : Prop :=
  l.stamp = x.st ∧ l.dead = x.dead ∧ ∃ A c, l.val = .slice A x.bs.length c ∧ BytesAt w A x.bs ∧ (x.bs ≠ [] → ∀ g off, A = some ⟨g, off, none⟩ → ¬ T g)

structure Sto (w : World) (s m n : Nat) (D : MD) (C : ByteArray → Option Ch) (live : Int) (V : ByteArray → List Ver) (U : Nat → Prop) : Prop where
  is : StIs w s m n D C live
  len : ∀ key c, C key = some c → c.2.2.length = (V key).length
  ver : ∀ (key : ByteArray) (c : Ch), C key = some c → ∀ (i : Nat) (l : Lk) (x : Ver), c.2.2[i]? = Option.some l → (V key)[i]? = Option.some x → Holds w (TerU s m C U) l x
  nov : ∀ key, C key = Option.none → V key = []
  has : ∀ key c, C key = some c → V key ≠ []

theorem info92 : (Try.prog.info? 92).map (·.size) = some 3 := by kernel_rfl
theorem one_lk (st : Int) (A : Option Addr) (n c : Nat) (dead : Bool) : (#[.int .i64 st, .slice A n c, .bool dead] : Array Value).all (·.oneCell') = true := by simp [Value.oneCell']

theorem snoc_of {α : Type} : ∀ {l : List α}, l ≠ [] → ∃ a x, l = a ++ [x]
  | [], h => absurd rfl h
  | [x], _ => ⟨[], x, rfl⟩
  | x :: y :: l, _ => by
    obtain ⟨a, z, h⟩ := snoc_of (l := y :: l) (by simp)
    exact ⟨x :: a, z, by rw [h]; rfl⟩

/-- what the last version weighs -/
def wgt (key : ByteArray) (xs : List Ver) : Int := match xs.getLast? with
  | none => 0
  | some x => if x.dead then 0 else key.size + x.bs.length

/-- the last link of a key's chain, and the version that it holds -/
theorem Sto.last {w : World} {s m n : Nat} {D : MD} {C : ByteArray → Option Ch} {live : Int} {V : ByteArray → List Ver} {U : Nat → Prop} (h : Sto w s m n D C live V U) {key : ByteArray} {c : Ch} (hc : C key = some c) :
    ∃ ls l xs x, c.2.2 = ls ++ [l] ∧ V key = xs ++ [x] ∧ Holds w (TerU s m C U) l x := by
  obtain ⟨xs, x, hx⟩ := snoc_of (h.has key c hc)
  have hl := h.len key c hc
  have hne : c.2.2 ≠ [] := fun e => by rw [e, hx] at hl; simp at hl
  obtain ⟨ls, l, hls⟩ := snoc_of hne
  rw [hls, hx] at hl
  simp at hl
  refine ⟨ls, l, xs, x, hls, hx, h.ver key c hc ls.length l x (by rw [hls]; simp) (by rw [hx, hl]; simp)⟩

set_option maxRecDepth 100000 in
set_option maxHeartbeats 1000000 in
theorem weight_is (w : World) (s m n : Nat) (D : MD) (C : ByteArray → Option Ch) (live : Int) (V : ByteArray → List Ver) {U : Nat → Prop} (key : ByteArray) (hk : key.size ≤ 255) (h : Sto w s m n D C live V U) (hv : ∀ x ∈ V key, x.bs.length ≤ 4096) :
    Calls Try.prog 45 #[.pointer (some ⟨s, 0, none⟩), .string key] w fun e w' => e = .returned (.int .i64 (wgt key (V key))) ∧ Only NoneOf w w' := by
  have hof := of_is w s m n D C live key (by unfold maxLen; omega) h.is
  cases hc : C key with
  | none =>
    have HV := Lib.hid (show wgt key (V key) = 0 by rw [h.nov key hc]; rfl)
    rw [hc] at hof
    have HL := fun u => Lib.hid (Cb.last_nil u)
    have HOf := Lib.hid hof
    clear h hv hof hc
    rw [HV.out]
    go_enter Try.func45, Try.ntmps45
    go_wp2_with fail
    refine HOf.out.mono ?_; rintro e w1 ⟨rfl, rfl⟩
    go_wp2_with fail
    refine (HL _).out.mono ?_; rintro e w1 ⟨rfl, ho1⟩
    have hB := Blk.new w1 92 zeroLk
    have HO := Lib.hid (((ho1.alloc (.cells zeroLk 92)).row (b := w1.heap.size) (.inr ho1.size) zeroLk))
    clear ho1
    go_wp2_with (first | (refine wpList_store_row rfl 92 (.tmp 5) (.tmp 12) rfl w1.heap.size zeroLk rfl rfl 92 zeroLk hB info92 rfl (one_lk _ _ _ _ _) ?_) | fail)
    go_ret
    exact ⟨rfl, HO.out⟩
  | some c =>
    obtain ⟨ls, l, xs, x, e1, e2, hst, hd, A, cp, hval, _, _⟩ := h.last hc
    have hch := h.is.chains key c hc
    rw [e1] at hch
    rw [hc] at hof
    have hxl := hv x (by rw [e2]; simp)
    have HL := Lib.hid (Cb.last_has w c.1 c.2.1 ls l hch)
    have HOf := Lib.hid hof
    obtain ⟨lst, lv, ld⟩ := l
    simp only at hst hd hval
    subst hst; subst hd; subst hval
    have HV := Lib.hid (show wgt key (V key) = if x.dead then 0 else (key.size : Int) + x.bs.length by rw [e2]; unfold wgt; rw [List.getLast?_concat])
    clear h hv hof hc e1 e2 hch
    rw [HV.out]
    generalize x.bs.length = nb at *
    generalize x.st = xst at *
    cases hdd : x.dead
    · rw [hdd] at HL
      go_enter Try.func45, Try.ntmps45
      go_wp2_with fail
      refine HOf.out.mono ?_; rintro e w1 ⟨rfl, rfl⟩
      go_wp2_with fail
      refine HL.out.mono ?_; rintro e w1 ⟨rfl, ho1⟩
      have hB := Blk.new w1 92 zeroLk
      have E5 := hB.row #[.int .i64 xst, .slice A nb cp, .bool false]
      have HO := Lib.hid (((ho1.alloc (.cells zeroLk 92)).row (b := w1.heap.size) (.inr ho1.size) #[.int .i64 xst, .slice A nb cp, .bool false]))
      have k1 := E5.cellv 1 rfl
      have k2 := E5.cellv 2 rfl
      clear ho1 E5
      go_wp2_with (first | (refine wpList_store_row rfl 92 (.tmp 5) (.tmp 12) rfl w1.heap.size #[.int .i64 xst, .slice A nb cp, .bool false] rfl rfl 92 zeroLk hB info92 rfl (one_lk _ _ _ _ _) ?_) | fail)
      go_ret
      exact ⟨by simp, HO.out⟩
    · rw [hdd] at HL
      go_enter Try.func45, Try.ntmps45
      go_wp2_with fail
      refine HOf.out.mono ?_; rintro e w1 ⟨rfl, rfl⟩
      go_wp2_with fail
      refine HL.out.mono ?_; rintro e w1 ⟨rfl, ho1⟩
      have hB := Blk.new w1 92 zeroLk
      have E5 := hB.row #[.int .i64 xst, .slice A nb cp, .bool true]
      have HO := Lib.hid (((ho1.alloc (.cells zeroLk 92)).row (b := w1.heap.size) (.inr ho1.size) #[.int .i64 xst, .slice A nb cp, .bool true]))
      have k2 := E5.cellv 2 rfl
      clear ho1 E5
      go_wp2_with (first | (refine wpList_store_row rfl 92 (.tmp 5) (.tmp 12) rfl w1.heap.size #[.int .i64 xst, .slice A nb cp, .bool true] rfl rfl 92 zeroLk hB info92 rfl (one_lk _ _ _ _ _) ?_) | fail)
      go_ret
      exact ⟨by simp, HO.out⟩

set_option maxRecDepth 100000 in
set_option maxHeartbeats 1000000 in
/-- Newest's answer -/
theorem newest_is (w : World) (s m n : Nat) (D : MD) (C : ByteArray → Option Ch) (live : Int) (V : ByteArray → List Ver) {U : Nat → Prop} (key : ByteArray) (hk : key.size ≤ maxLen) (h : Sto w s m n D C live V U) :
    Calls Try.prog 26 #[.pointer (some ⟨s, 0, none⟩), .string key] w fun e w' => e = .returned (match (V key).getLast? with | none => .tuple #[.int .i64 0, .bool false] | some x => .tuple #[.int .i64 x.st, .bool true]) ∧ Only NoneOf w w' := by
  have hof := of_is w s m n D C live key hk h.is
  cases hc : C key with
  | none =>
    have HV := h.nov key hc
    rw [hc] at hof
    have HL := fun u => Lib.hid (Cb.last_nil u)
    have HOf := Lib.hid hof
    clear h hof hc
    rw [HV]
    go_enter Try.func26, Try.ntmps26
    go_wp2_with fail
    refine HOf.out.mono ?_; rintro e w1 ⟨rfl, rfl⟩
    go_wp2_with fail
    refine (HL _).out.mono ?_; rintro e w1 ⟨rfl, ho1⟩
    have hB := Blk.new w1 92 zeroLk
    have k0 := (hB.row zeroLk).cellv 0 rfl
    have HO := Lib.hid (((ho1.alloc (.cells zeroLk 92)).row (b := w1.heap.size) (.inr ho1.size) zeroLk))
    clear ho1
    go_wp2_with (first | (refine wpList_store_row rfl 92 (.tmp 6) (.tmp 13) rfl w1.heap.size zeroLk rfl rfl 92 zeroLk hB info92 rfl (one_lk _ _ _ _ _) ?_) | fail)
    go_ret2
    exact ⟨rfl, HO.out⟩
  | some c =>
    obtain ⟨ls, l, xs, x, e1, e2, hst, hd, A, cp, hval, _, _⟩ := h.last hc
    have hch := h.is.chains key c hc
    rw [e1] at hch
    rw [hc] at hof
    have HL := Lib.hid (Cb.last_has w c.1 c.2.1 ls l hch)
    have HOf := Lib.hid hof
    obtain ⟨lst, lv, ld⟩ := l
    simp only at hst hd hval
    subst hst; subst hd; subst hval
    have HV := Lib.hid (show (V key).getLast? = some x by rw [e2, List.getLast?_concat])
    clear h hof hc e1 e2 hch
    rw [HV.out]
    obtain ⟨xst, xb, xd⟩ := x
    generalize xb.length = nb at *
    go_enter Try.func26, Try.ntmps26
    go_wp2_with fail
    refine HOf.out.mono ?_; rintro e w1 ⟨rfl, rfl⟩
    go_wp2_with fail
    refine HL.out.mono ?_; rintro e w1 ⟨rfl, ho1⟩
    have hB := Blk.new w1 92 zeroLk
    have k0 := (hB.row #[.int .i64 xst, .slice A nb cp, .bool xd]).cellv 0 rfl
    have HO := Lib.hid (((ho1.alloc (.cells zeroLk 92)).row (b := w1.heap.size) (.inr ho1.size) #[.int .i64 xst, .slice A nb cp, .bool xd]))
    clear ho1
    go_wp2_with (first | (refine wpList_store_row rfl 92 (.tmp 6) (.tmp 13) rfl w1.heap.size #[.int .i64 xst, .slice A nb cp, .bool xd] rfl rfl 92 zeroLk hB info92 rfl (one_lk _ _ _ _ _) ?_) | fail)
    go_ret2
    exact ⟨rfl, HO.out⟩

end Go.Proofs.Ytnonnencdhogiaa
