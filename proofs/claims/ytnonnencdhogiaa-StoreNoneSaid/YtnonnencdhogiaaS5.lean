/-
  Layer 14: Get.
-/
import Derived.Test.YtnonnencdhogiaaS4
namespace Go.Proofs.Ytnonnencdhogiaa
open Go.RowKit
open Cb (ChIs Foot TellPost zeroLk)

/-- the newest version at a stamp -/
def newest (xs : List Ver) (st : Int) : Option Ver := (xs.takeWhile fun x => decide (x.st ≤ st)).getLast?
/-- what Get finds -/
def found (xs : List Ver) (st : Int) : Option (List UInt8) := (newest xs st).bind fun x => if x.dead then none else some x.bs

theorem cnt_ver : ∀ (ls : List Lk) (xs : List Ver) (st : Int), ls.length = xs.length → (∀ (i : Nat) (l : Lk) (x : Ver), ls[i]? = some l → xs[i]? = some x → l.stamp = x.st) → cnt ls st = (xs.takeWhile fun x => decide (x.st ≤ st)).length
  | [], [], _, _, _ => rfl
  | [], _ :: _, _, h, _ => by simp at h
  | _ :: _, [], _, h, _ => by simp at h
  | l :: ls, x :: xs, st, h, hs => by
    have ih := cnt_ver ls xs st (by simpa using h) (fun i l x hl hx => hs (i + 1) l x (by simpa using hl) (by simpa using hx))
    have h0 : l.stamp = x.st := hs 0 l x rfl rfl
    unfold cnt at ih ⊢
    rw [List.takeWhile_cons, List.takeWhile_cons, h0]
    split
    · simp only [List.length_cons]
      rw [ih]
    · rfl
theorem take_at {α : Type} (p : α → Bool) : ∀ (xs : List α) (n : Nat) (x : α), (xs.takeWhile p).length = n + 1 → (xs.takeWhile p).getLast? = some x → xs[n]? = some x
  | xs, n, x, hl, hx => by
    have h1 : (xs.takeWhile p)[n]? = some x := by
      rw [List.getLast?_eq_getElem?, hl] at hx
      exact hx
    have h2 : xs.takeWhile p <+: xs := List.takeWhile_prefix p
    obtain ⟨r, hr⟩ := h2
    rw [← hr, List.getElem?_append_left (by omega)]
    exact h1

theorem Sto.count {w : World} {s m n : Nat} {D : MD} {C : ByteArray → Option Ch} {live : Int} {V : ByteArray → List Ver} {U : Nat → Prop} (h : Sto w s m n D C live V U) {key : ByteArray} {c : Ch} (hc : C key = some c) (st : Int) :
    (newest (V key) st = none ∧ cnt c.2.2 st = 0) ∨ ∃ k l x, newest (V key) st = some x ∧ cnt c.2.2 st = k + 1 ∧ c.2.2[k]? = some l ∧ Holds w (TerU s m C U) l x := by
  have hl := h.len key c hc
  have hcnt := cnt_ver c.2.2 (V key) st hl (fun i l x h1 h2 => (h.ver key c hc i l x h1 h2).1)
  unfold newest
  cases hg : ((V key).takeWhile fun x => decide (x.st ≤ st)).getLast? with
  | none =>
    rw [List.getLast?_eq_none_iff] at hg
    rw [hg] at hcnt
    exact .inl ⟨rfl, hcnt⟩
  | some x =>
    have hne : ((V key).takeWhile fun x => decide (x.st ≤ st)) ≠ [] := fun e => by rw [e] at hg; simp at hg
    obtain ⟨k, hk⟩ : ∃ k, ((V key).takeWhile fun x => decide (x.st ≤ st)).length = k + 1 := ⟨_, (Nat.succ_pred_eq_of_pos (List.length_pos_iff.2 hne)).symm⟩
    have hx := take_at _ (V key) k x hk hg
    have hkl : k < c.2.2.length := by rw [hl]; exact (List.getElem?_eq_some_iff.1 hx).1
    exact .inr ⟨k, c.2.2[k], x, rfl, hcnt.trans hk, List.getElem?_eq_getElem hkl, h.ver key c hc k _ x (List.getElem?_eq_getElem hkl) hx⟩

def GetIs (R : Option (List UInt8)) (w : World) (e : Ending) (w' : World) : Prop :=
  (match R with
    | none => e = .returned (.tuple #[.slice none 0 0, .bool false])
    | some bs => ∃ v, e = .returned (.tuple #[v, .bool true]) ∧ RowB w' w.heap.size v bs) ∧ Only NoneOf w w'

set_option maxRecDepth 100000 in
set_option maxHeartbeats 2000000 in
theorem get_is (w : World) (s m n : Nat) (D : MD) (C : ByteArray → Option Ch) (live : Int) (V : ByteArray → List Ver) {U : Nat → Prop} (key : ByteArray) (st : Int) (hk : key.size ≤ maxLen) (h : Sto w s m n D C live V U) (hv : ∀ x ∈ V key, x.bs.length ≤ 4096) :
    Calls Try.prog 23 #[.pointer (some ⟨s, 0, none⟩), .string key, .int .i64 st] w (GetIs (found (V key) st) w) := by
  have hof := of_is w s m n D C live key hk h.is
  obtain ⟨R, HR⟩ : ∃ R, Hid (found (V key) st = R) := ⟨_, Lib.hid rfl⟩
  rw [HR.out]
  have miss : ∀ v0, chPtr (C key) = v0 → (∀ u, Only NoneOf w u → True) → Hid (Calls Try.prog 48 #[v0, .int .i64 st] w (TellPost zeroLk false w)) → R = none →
      Calls Try.prog 23 #[.pointer (some ⟨s, 0, none⟩), .string key, .int .i64 st] w (GetIs R w) := by
    intro v0 hv0 _ HA hR
    have HRN := Lib.hid hR
    rw [hv0] at hof
    have HOf := Lib.hid hof
    clear h hv hof hv0 hR HR
    go_enter Try.func23, Try.ntmps23
    go_wp2_with fail
    refine HOf.out.mono ?_; rintro e w1 ⟨rfl, rfl⟩
    go_wp2_with fail
    refine HA.out.mono ?_; rintro e w1 ⟨rfl, ho1⟩
    have hB := Blk.new w1 92 zeroLk
    have HO := Lib.hid (((ho1.alloc (.cells zeroLk 92)).row (b := w1.heap.size) (.inr ho1.size) zeroLk))
    clear ho1
    go_wp2_with (first | (refine wpList_store_row rfl 92 (.tmp 8) (.tmp 16) rfl w1.heap.size zeroLk rfl rfl 92 zeroLk hB info92 rfl (one_lk _ _ _ _ _) ?_) | fail)
    go_ret2
    rw [HRN.out]
    exact ⟨rfl, HO.out⟩
  cases hc : C key with
  | none =>
    refine miss _ rfl (fun _ _ => trivial) (by rw [hc]; exact Lib.hid (Cb.at_nil w st)) ?_
    rw [← HR.out, h.nov key hc]
    rfl
  | some c =>
    have hch := h.is.chains key c hc
    rcases h.count hc st with ⟨h1, h2⟩ | ⟨k, l, x, h1, h2, h3, hst, hd, A, cp, hval, hby, _⟩
    · refine miss _ rfl (fun _ _ => trivial) (by rw [hc]; exact Lib.hid (Cb.at_none w c.1 c.2.1 c.2.2 st hch h2)) ?_
      rw [← HR.out]
      unfold found
      rw [h1]
      rfl
    · have HA := Lib.hid (Cb.at_has w c.1 c.2.1 c.2.2 st k l hch h2 h3)
      rw [hc] at hof
      have HOf := Lib.hid hof
      have hxl : x.bs.length ≤ 4096 := hv x ((List.takeWhile_prefix _).subset (List.mem_of_getLast? h1))
      obtain ⟨lst, lv, ld⟩ := l
      simp only at hst hd hval
      subst hst; subst hd; subst hval
      have HRR := Lib.hid (show R = if x.dead then none else some x.bs by rw [← HR.out]; unfold found; rw [h1]; rfl)
      have HBY := Lib.hid hby
      clear h hv hof hc hch h1 h2 h3 hby HR miss
      obtain ⟨xst, xb, xd⟩ := x
      obtain ⟨nb, hnb⟩ : ∃ nb, xb.length = nb := ⟨_, rfl⟩
      have HNB := Lib.hid hnb
      simp only [hnb] at HA hxl
      have HOW := fun u (ho : Only NoneOf w u) => Lib.hid (own_is A nb cp xb u hnb (HBY.out.keep ho) (by omega))
      clear hnb
      cases xd
      · have HRN := Lib.hid (show R = some xb from HRR.out)
        go_enter Try.func23, Try.ntmps23
        go_wp2_with fail
        refine HOf.out.mono ?_; rintro e w1 ⟨rfl, rfl⟩
        go_wp2_with fail
        refine HA.out.mono ?_; rintro e w1 ⟨rfl, ho1⟩
        have hB := Blk.new w1 92 zeroLk
        have E5 := hB.row #[.int .i64 xst, .slice A nb cp, .bool false]
        have HO := Lib.hid (((ho1.alloc (.cells zeroLk 92)).row (b := w1.heap.size) (.inr ho1.size) #[.int .i64 xst, .slice A nb cp, .bool false]))
        have k1 := E5.cellv 1 rfl
        have k2 := E5.cellv 2 rfl
        clear ho1 E5
        go_wp2_with (first | (refine wpList_store_row rfl 92 (.tmp 8) (.tmp 16) rfl w1.heap.size #[.int .i64 xst, .slice A nb cp, .bool false] rfl rfl 92 zeroLk hB info92 rfl (one_lk _ _ _ _ _) ?_) | fail)
        refine (HOW _ HO.out).out.mono ?_; rintro e w2 ⟨v, rfl, hr, ho2⟩
        have HR2 := Lib.hid hr
        have HO2 := Lib.hid (HO.out.trans ho2)
        have hsz := HO.out.size
        clear hr ho2
        go_wp2_with fail
        go_ret2
        rw [HRN.out]
        refine ⟨⟨v, rfl, HR2.out.1, ?_⟩, HO2.out⟩
        rcases HR2.out.2 with h0 | ⟨g, cap, cur, hv, hb, r⟩
        · exact .inl h0
        · exact .inr ⟨g, cap, cur, hv, Nat.le_trans hsz hb, r⟩
      · have HRN := Lib.hid (show R = none from HRR.out)
        go_enter Try.func23, Try.ntmps23
        go_wp2_with fail
        refine HOf.out.mono ?_; rintro e w1 ⟨rfl, rfl⟩
        go_wp2_with fail
        refine HA.out.mono ?_; rintro e w1 ⟨rfl, ho1⟩
        have hB := Blk.new w1 92 zeroLk
        have E5 := hB.row #[.int .i64 xst, .slice A nb cp, .bool true]
        have HO := Lib.hid (((ho1.alloc (.cells zeroLk 92)).row (b := w1.heap.size) (.inr ho1.size) #[.int .i64 xst, .slice A nb cp, .bool true]))
        have k2 := E5.cellv 2 rfl
        clear ho1 E5
        go_wp2_with (first | (refine wpList_store_row rfl 92 (.tmp 8) (.tmp 16) rfl w1.heap.size #[.int .i64 xst, .slice A nb cp, .bool true] rfl rfl 92 zeroLk hB info92 rfl (one_lk _ _ _ _ _) ?_) | fail)
        go_ret2
        rw [HRN.out]
        exact ⟨rfl, HO.out⟩

end Go.Proofs.Ytnonnencdhogiaa
