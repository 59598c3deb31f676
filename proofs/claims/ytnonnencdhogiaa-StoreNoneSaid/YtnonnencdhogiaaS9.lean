/-
  Layer 14: Len (a range over the map of chains).
-/
import Derived.Test.YtnonnencdhogiaaS7
import Derived.Maps.RangeWalk
import Derived.Maps.OwnSet
namespace Go.Proofs.Ytnonnencdhogiaa
open Go.RowKit
open Go.Maps (Keyed)
open Cb (ChIs Foot)

/-- a key's number, summed over the entries that are left -/
def sumLeft (f : Lit → Nat) (es : List (Lit × MD)) (left : Lit → Bool) : Nat := ((es.filter fun p => left p.1).map fun p => f p.1).sum
theorem sum_none (f : Lit → Nat) (left : Lit → Bool) : ∀ (es : List (Lit × MD)), (∀ kl, left kl = false) → sumLeft f es left = 0
  | [], _ => rfl
  | p :: es, h => by
    have ih := sum_none f left es h
    unfold sumLeft at ih ⊢
    rw [List.filter_cons_of_neg (by rw [h]; simp)]
    exact ih
theorem sum_congr (f : Lit → Nat) {left left' : Lit → Bool} : ∀ (es : List (Lit × MD)), (∀ p ∈ es, left p.1 = left' p.1) → sumLeft f es left = sumLeft f es left'
  | [], _ => rfl
  | p :: es, h => by
    have ih := sum_congr f es (fun q hq => h q (by simp [hq]))
    have h0 := h p (by simp)
    unfold sumLeft at ih ⊢
    cases hl : left p.1
    · rw [List.filter_cons_of_neg (by rw [hl]; simp), List.filter_cons_of_neg (by rw [← h0, hl]; simp)]
      exact ih
    · rw [List.filter_cons_of_pos (by rw [hl]), List.filter_cons_of_pos (by rw [← h0, hl])]
      simp only [List.map_cons, List.sum_cons]
      rw [ih]
theorem sum_strike (f : Lit → Nat) (left : Lit → Bool) (kl : Lit) (hk : WideAt.IsKeyLit kl) (hl : left kl = true) : ∀ (es : List (Lit × MD)), es.Pairwise (fun p q => p.1 ≠ q.1) → (∃ p ∈ es, p.1 = kl) →
    sumLeft f es left = f kl + sumLeft f es (fun z => left z && !z.sameKey kl)
  | [], _, h => by obtain ⟨p, hp, _⟩ := h; cases hp
  | p :: es, hpw, h => by
    obtain ⟨h1, h2⟩ := List.pairwise_cons.1 hpw
    by_cases e : p.1 = kl
    · have hc := sum_congr f (left := left) (left' := fun z => left z && !z.sameKey kl) es (fun q hq => by
        have hne : q.1 ≠ kl := fun e' => h1 q hq (e.trans e'.symm)
        have : q.1.sameKey kl = false := by
          cases hs : q.1.sameKey kl
          · rfl
          · exact absurd (WideAt.sameKey_eq hs) hne
        rw [this]
        simp)
      unfold sumLeft at hc ⊢
      rw [List.filter_cons_of_pos (by rw [e, hl]), List.filter_cons_of_neg (by rw [e]; simp [WideAt.sameKey_self hk]), ← hc]
      simp [e]
    · have ih := sum_strike f left kl hk hl es h2 (by
        obtain ⟨q, hq, hqk⟩ := h
        rcases List.mem_cons.1 hq with rfl | hq
        · exact absurd hqk e
        · exact ⟨q, hq, hqk⟩)
      have hs : p.1.sameKey kl = false := by
        cases hs : p.1.sameKey kl
        · rfl
        · exact absurd (WideAt.sameKey_eq hs) e
      unfold sumLeft at ih ⊢
      cases hlp : left p.1
      · rw [List.filter_cons_of_neg (by simp [hlp]), List.filter_cons_of_neg (by simp [hlp])]
        exact ih
      · rw [List.filter_cons_of_pos (by simp [hlp]), List.filter_cons_of_pos (by simp [hlp, hs])]
        simp only [List.map_cons, List.sum_cons]
        rw [ih]
        exact Nat.add_left_comm _ _ _

/-- how many versions a key has -/
def lensOf (V : ByteArray → List Ver) : Lit → Nat
  | .string bs => (V ⟨bs.toArray⟩).length
  | _ => 0

theorem at_entry {es : List (Lit × MD)} {kl : Lit} {y : MD} (h : ∀ zd, DataW.atKey (.map es) kl zd = y) : ∃ p ∈ es, p.1 = kl := by
  cases hh : Go.Maps.has (.map es : MD) kl with
  | true =>
    obtain ⟨p, hp, hk⟩ := List.any_eq_true.1 hh
    exact ⟨p, hp, WideAt.sameKey_eq hk⟩
  | false =>
    have h1 := h .nil
    have h2 := h (.lit (.bool true))
    rw [Go.Maps.atKey_of_not_has hh] at h1 h2
    rw [← h1] at h2
    cases h2

def ptrV : Option Nat → Value
  | none => .pointer none
  | some p => .pointer (some ⟨p, 0, none⟩)
theorem RP_inv (v : Value) (y : MD × List MemPlace) (h : RP v = some y) : ∃ c, v = ptrV c := by
  unfold RP at h
  split at h
  · exact ⟨none, rfl⟩
  · rename_i p
    exact ⟨some p, rfl⟩
  · cases h
theorem key_inv (key : Value) (kl : Lit) (h : keyOf Try.prog 9 key = some kl) : ∃ x : ByteArray, key = .string x := by
  cases key <;> simp [keyOf, mapKey, Try.underlying9] at h
  exact ⟨_, rfl⟩

theorem key_lit (x : ByteArray) (kl : Lit) (h : keyOf Try.prog 9 (.string x) = some kl) : kl = .string x.data.toList ∧ x.size ≤ maxLen := by
  simp [keyOf, mapKey, Try.underlying9] at h
  exact ⟨h.2.symm, h.1⟩

def LenRel (W : World) (m n : Nat) (D : MD) (es : List (Lit × MD)) (f : Lit → Nat) (total : Nat) (v : Value) (wr : World) : Prop :=
  ∃ (left : Lit → Bool) (cnt acc : Nat), wr.ranges Try.prog 9 RP m W.heap.size n D left cnt ∧ v = .int .i64 acc ∧ acc + sumLeft f es left = total ∧ Only NoneOf W wr ∧ W.heap.size < wr.heap.size

set_option maxRecDepth 100000 in
set_option maxHeartbeats 1000000 in
theorem len_is (w : World) (s m n : Nat) (D : MD) (C : ByteArray → Option Ch) (live : Int) (V : ByteArray → List Ver) {U : Nat → Prop} (es : List (Lit × MD)) (h : Sto w s m n D C live V U) (hD : D = .map es) (hes : es.Pairwise fun p q => p.1 ≠ q.1)
    (hsum : sumLeft (lensOf V) es (fun _ => true) ≤ 9223372036854775807) :
    Calls Try.prog 19 #[.pointer (some ⟨s, 0, none⟩)] w fun e w' => e = .returned (.tuple #[.int .i64 (es.length : Nat), .int .i64 (sumLeft (lensOf V) es (fun _ => true) : Nat)]) ∧ Only NoneOf w w' := by
  have c0 := h.is.blk.cellv 0 rfl
  have HS := Lib.hid h
  have hown := h.is.map
  obtain ⟨total, htot⟩ : ∃ t, t = sumLeft (lensOf V) es (fun _ => true) := ⟨_, rfl⟩
  rw [← htot] at hsum ⊢
  have HT := Lib.hid htot
  clear h htot
  go_enter Try.func19, Try.ntmps19
  go_wp2_with (first | (refine wpList_range_own _ rfl (.tmp 12) 81 rfl 9 84 law9 Try.underlying81 RP m n D rfl hown ?_; intro w0 hrg0 hg0 hs0) | fail)
  go_frame
  have HG0 := Lib.hid (only_grown hg0)
  have hrs := hs0
  go_loopw [4] (fun v wr => LenRel w m n D es (lensOf V) total v wr) (fun _ wr => wr.rangeLeft m w.heap.size)
  case atStart =>
    refine ⟨_, _, 0, hrg0, rfl, ?_, HG0.out.mono (fun _ _ h => by cases h), by omega⟩
    rw [HT.out, Nat.zero_add]
    refine sum_congr _ _ (fun p hp => ?_)
    rw [hD, Go.Maps.has_eq]
    have hk : WideAt.IsKeyLit p.1 := by
      obtain ⟨es', hD', _, hk⟩ := hown.entries law9
      rw [hD] at hD'
      cases hD'
      exact hk p hp
    exact List.any_eq_true.2 ⟨p, hp, WideAt.sameKey_self hk⟩
  case round =>
    clear hrg0 hg0 hs0
    obtain ⟨left, cnt, acc, hrg, rfl, hacc, ho, hlr⟩ := hrel
    have HO := Lib.hid ho
    have HACC := Lib.hid hacc
    clear ho hacc
    go_wp2_with (first | (refine wpList_next_ranges _ rfl (.tmp 13) rfl 9 law9 RP Value.string ptrV key_inv RP_inv m w.heap.size n D left cnt rfl hrg ?_ ?_) | fail)
    · intro hc0 hl0
      have hb := (HS.out.is.blk.only HO.out (fun h => h)).cellv 0 rfl
      have hownr := map_only HS.out.is.map HO.out (fun h => h)
      have hz := HACC.out
      rw [sum_none _ _ _ hl0, Nat.add_zero] at hz
      subst hz
      go_wp2_with (first | (refine wpList_len_own _ rfl (.tmp 25) 81 rfl 9 84 Try.underlying81 RP m n D rfl hownr ?_) | fail)
      go_ret2
      exact ⟨rfl, HO.out⟩
    · intro x c kl y ps w1 cnt1 hkx hlx hvc hat hrg1 hlt hg1 hs1 hen
      obtain ⟨hkl, hxl⟩ := key_lit x kl hkx
      subst hkl
      have hat' : ∀ zd, D.atKey (.string x.data.toList) zd = y := fun zd => by rw [hD]; exact hat zd
      have hk0 := fun zd => (HS.out.is.keys x zd hxl).symm.trans (hat' zd)
      obtain ⟨ch, hch⟩ : ∃ ch, C x = some ch := by
        cases hc : C x with
        | some ch => exact ⟨ch, rfl⟩
        | none =>
          rw [hc] at hk0
          have h1 := hk0 .nil
          have h2 := hk0 (.lit (.bool true))
          simp only at h1 h2
          rw [← h1] at h2
          cases h2
      have hy : y = .lit (.int .i64 ch.1) := by
        have := hk0 .nil
        rw [hch] at this
        exact this.symm
      have hpv : ptrV c = .pointer (some ⟨ch.1, 0, none⟩) := RP_at (ps := ps) (by rw [hvc, ← hy])
      have hent : ∃ p ∈ es, p.1 = .string x.data.toList := at_entry (y := y) hat
      have hst := sum_strike (lensOf V) left (.string x.data.toList) trivial hlx es hes hent
      have hlv : lensOf V (.string x.data.toList) = ch.2.2.length := by
        rw [HS.out.len x ch hch]
        rfl
      rw [hlv] at hst
      have ho1 : Only NoneOf w w1 := HO.out.step (only_grown hg1) (fun k hk h => by
        have : w.heap.size = k := by simpa using h
        omega)
      have hchain := (HS.out.is.chains x ch hch).keep ho1
      have HLEN := Lib.hid (Cb.len_has w1 ch.1 ch.2.1 ch.2.2 ch.2.2.length hchain rfl)
      have HO1 := Lib.hid ho1
      have HRG := Lib.hid hrg1
      have HRG0 := Lib.hid hrg
      have hacc := HACC.out
      have HST := Lib.hid (show acc + ch.2.2.length + sumLeft (lensOf V) es (fun z => left z && !z.sameKey (.string x.data.toList)) = total by omega)
      have hbig : acc + ch.2.2.length ≤ 9223372036854775807 := by omega
      rw [hpv] at hen ⊢
      clear hk0 hat' hy hpv hent hst hlv ho1 hchain hrg1 hrg hat hvc hkx hacc
      generalize ch.2.2.length = nl at *
      go_wp2_with fail
      refine HLEN.out.mono ?_; rintro e w2 ⟨rfl, rfl⟩
      go_wp2_with fail
      go_roundw
      case rel => exact ⟨_, cnt1, acc + nl, by rw [hD]; exact HRG.out, by go_num, HST.out, HO1.out, by omega⟩
      case measure => rw [HRG.out.left_eq, HRG0.out.left_eq]; exact hlt

end Go.Proofs.Ytnonnencdhogiaa
