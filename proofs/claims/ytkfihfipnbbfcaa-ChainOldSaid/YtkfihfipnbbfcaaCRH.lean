/-
  Layer 13's law: ChainWalks walked.
-/
import Derived.Test.YtkfihfipnbbfcaaCRF
namespace Go.Proofs.Ytkfihfipnbbfcaa
open Go.RowKit
namespace Rf
open Cs (IsV ChIs Foot TellPost WalkPost walked)

theorem rev_get {ls : List Lk} {k : Nat} (hk : k < ls.length) : ls.reverse[k]? = ls[ls.length - 1 - k]? := List.getElem?_reverse hk

theorem rev_falls {ls : List Lk} (hr : Rising ls) {k : Nat} {a b : Lk} (ha : ls.reverse[k]? = some a) (hb : ls.reverse[k + 1]? = some b) : b.stamp < a.stamp := by
  have h1 : k + 1 < ls.length := by have := (List.getElem?_eq_some_iff.1 hb).1; simpa using this
  rw [rev_get (by omega)] at ha
  rw [rev_get h1] at hb
  have e : ls.length - 1 - k = ls.length - 1 - (k + 1) + 1 := by omega
  rw [e] at ha
  obtain ⟨p1, e1⟩ := List.getElem?_eq_some_iff.1 ha
  obtain ⟨p2, e2⟩ := List.getElem?_eq_some_iff.1 hb
  rw [← e1, ← e2]
  exact List.pairwise_iff_getElem.1 hr.2 _ _ p2 p1 (by omega)

theorem rev_above {ls : List Lk} (hr : Rising ls) {n : Int} {k : Nat} {a : Lk} (ha : ls.reverse[k]? = some a) (hk : k < ls.length - cnt ls n) : n < a.stamp := by
  rw [rev_get (by omega)] at ha
  exact cnt_ge hr.2 (by omega) ha

theorem rev_first {ls : List Lk} {n : Int} {k : Nat} {a : Lk} (ha : ls.reverse[k]? = some a) (hk : k = ls.length - cnt ls n) (hc : 0 < cnt ls n) : a.stamp ≤ n ∧ atLk ls n = some a := by
  have hle := cnt_le ls n
  rw [rev_get (by omega)] at ha
  refine ⟨cnt_lt (by omega) ha, ?_⟩
  unfold atLk
  rcases hm : cnt ls n with _ | m
  · omega
  · simp only
    rw [← ha]
    congr 1
    omega

theorem told_is {o : Option Lk} {st : Int} {y : ByteArray} {b is : Bool} (h : Told o st y b is) : is = toldIs o := by cases h <;> rfl
theorem told_some {l : Lk} {st : Int} {y : ByteArray} {b is : Bool} (h : Told (some l) st y b is) : l = ⟨st, .string y, b⟩ ∧ is = true := by cases h; exact ⟨rfl, rfl⟩

theorem rev_form {V : World} {ag : Option Addr} {n c : Nat} {xs : List Lk} {k : Nat} {l : Lk} (h : V.ownsRow 0 65 3 (.slice ag n c) xs.length (flat xs)) (hv : ∀ l ∈ xs, IsV l.val) (hl : xs[k]? = some l) :
    ∃ g, ag = some ⟨g, 0, none⟩ ∧ g < V.heap.size ∧ ∀ (i : Nat) (l : Lk), xs[i]? = some l → ∃ x : ByteArray, l.val = .string x ∧ V.cell? ⟨g, i * 3, none⟩ = some (.int .i64 l.stamp) ∧ V.cell? ⟨g, i * 3 + 1, none⟩ = some (.string x) ∧ V.cell? ⟨g, i * 3 + 2, none⟩ = some (.bool l.dead) := by
  rcases form h hv with ⟨_, h0⟩ | ⟨g, cap2, hag, _, hg, hcs⟩
  · rw [h0] at hl; simp at hl
  · injection hag with hag _ _
    exact ⟨g, hag, hg, hcs⟩

def WkRel (w : World) (n m : Nat) (f i : Value) (wr : World) : Prop := ∃ k : Nat, k ≤ n ∧ i = .int .i64 k ∧ f = .bool (decide (m < k)) ∧ Only NoneOf w wr

set_option maxRecDepth 100000 in
set_option maxHeartbeats 2000000 in
theorem walks_any (A : Option Addr) (cap : Nat) (s : List St) (stamp : Int) (w : World) (hA : StepsIn w w.heap.size A s) (hn : s.length ≤ 3518437208780) :
    Calls Try.prog 12 #[.slice A s.length cap, .int .i64 stamp] w (fun e w' => e = .returned (.bool true) ∧ Only NoneOf w w') := by
  have hfew : (playList [] s).length ≤ s.length := by have := playList_le s []; simpa using this
  have hle := cnt_le (playList [] s) stamp
  have HM := Lib.hid (played_is A cap s w hA hn)
  generalize playList [] s = ls at *
  clear hA
  go_enter Try.func12, Try.ntmps12
  go_wp2_with fail
  refine HM.out.mono ?_; rintro e w1 ⟨rfl, v, h1, ho1, hf1⟩
  have HR := Lib.hid h1.rise
  have HV := Lib.hid h1.vals
  have HC1 := Lib.hid h1
  have HO1 := Lib.hid ho1
  clear h1 ho1 hf1 HM
  go_wp2_with fail
  refine (Cs.walk_has w1 _ v ls (-1) HC1.out).mono ?_; rintro e w2 ⟨a, rfl, hra, ho2, _⟩
  have hwk : walked ls.reverse (-1) = ls.reverse := by unfold walked; rw [if_pos (by decide)]
  rw [hwk] at hra
  have HRA := Lib.hid hra
  have HC2 := Lib.hid (HC1.out.keep ho2)
  have HO2 := Lib.hid (HO1.out.trans ho2)
  obtain ⟨ag, acap, hv⟩ := Cs.walk_form hra
  rw [List.length_reverse] at hv
  subst hv
  clear hra ho2 hwk HC1 HO1
  go_wp2_with fail
  refine (Cs.awake_any _).mono ?_; rintro e w3 ⟨rfl, ho3⟩
  have HC3 := Lib.hid (HC2.out.keep ho3)
  have HO3 := Lib.hid (HO2.out.trans ho3)
  have HRA3 := Lib.hid (Cs.row_only HRA.out ho3 (fun _ _ h => h))
  clear ho3 HC2 HO2 HRA
  go_wp2_with fail
  refine (Cs.len_has _ _ _ _ _ HC3.out rfl).mono ?_; rintro e w4 ⟨rfl, rfl⟩
  obtain ⟨st, y, b, is, ht⟩ := told_of (o := atLk ls stamp) (fun l hl => HV.out l (by
    unfold atLk at hl
    split at hl
    · cases hl
    · exact List.mem_of_getElem? hl))
  have HT := Lib.hid ht
  clear ht
  go_wp2_with fail
  refine (at_tell w3 _ v _ stamp st y b is HC3.out HT.out).mono ?_; rintro e w6 ⟨rfl, ho6⟩
  have hX := Blk.new w6 65 #[.int .i64 st, .string y, .bool b]
  have HO6 := Lib.hid ((HO3.out.trans ho6).alloc (.cells #[.int .i64 st, .string y, .bool b] 65))
  have HRA6 := Cs.row_only (Cs.row_only HRA3.out ho6 (fun _ _ h => h)) ((Only.refl NoneOf w6).alloc (.cells #[.int .i64 st, .string y, .bool b] 65)) (fun _ _ h => h)
  clear ho6 HRA3 HC3 HO3
  go_wp2_with fail
  generalize w6.alloc (.cells #[.int .i64 st, .string y, .bool b] 65) = V at *
  generalize w6.heap.size = c1 at *
  have HQ1 := Lib.hid (fun k a (ha : ls.reverse[k]? = some a) (hk : k < ls.length - cnt ls stamp) => rev_above HR.out ha hk)
  have HQ2 := Lib.hid (fun k a (ha : ls.reverse[k]? = some a) (hk : k = ls.length - cnt ls stamp) => rev_first ha hk (by
    have : k < ls.length := by have := (List.getElem?_eq_some_iff.1 ha).1; simpa using this
    omega))
  have HQ3 := Lib.hid (fun j a b (ha : ls.reverse[j]? = some a) (hb : ls.reverse[j + 1]? = some b) => rev_falls HR.out ha hb)
  have HQ4 : Hid (is = decide (ls.length - cnt ls stamp < ls.length)) := Lib.hid (by
    rw [told_is HT.out]
    unfold atLk
    rcases hc : cnt ls stamp with _ | m
    · simp [toldIs]
    · have hm : m < ls.length := by omega
      simp only [List.getElem?_eq_getElem hm, toldIs]
      exact (decide_eq_true (by omega)).symm)
  have HR6 := Lib.hid HRA6
  have HLN : Hid (ls.reverse.length = ls.length) := Lib.hid List.length_reverse
  clear HRA6
  generalize ls.length - cnt ls stamp = m at *
  generalize hlen : ls.length = len at *
  have HLEN := Lib.hid hlen
  clear hlen
  go_loopw [9, 10] (fun f i wr => WkRel V len m f i wr) (fun _ i _ => len - (intOf i).toNat)
  case atStart => exact ⟨0, Nat.zero_le _, rfl, by simp, Only.refl _ _⟩
  case round =>
    obtain ⟨k, hk, rfl, rfl, ho⟩ := hrel
    have x0 := (hX.only ho (fun h => h)).cellv 0 rfl
    have x1 := (hX.only ho (fun h => h)).cellv 1 rfl
    have x2 := (hX.only ho (fun h => h)).cellv 2 rfl
    have HO := Lib.hid ho
    by_cases hlt : k < len
    · obtain ⟨l, hl⟩ : ∃ l, ls.reverse[k]? = some l := ⟨_, List.getElem?_eq_getElem (by rw [HLN.out]; exact hlt)⟩
      obtain ⟨g, hag, hg, hcs⟩ := rev_form HR6.out (fun l hl => HV.out l (by simpa using hl)) hl
      subst hag
      obtain ⟨xx, hx, e0, e1, e2⟩ := hcs k _ hl
      have f0 : wr.cell? ⟨g, k * 3, none⟩ = some (.int .i64 l.stamp) := by rw [ho.cell hg (fun h => h)]; exact e0
      have f1 : wr.cell? ⟨g, k * 3 + 1, none⟩ = some (.string xx) := by rw [ho.cell hg (fun h => h)]; exact e1
      have f2 : wr.cell? ⟨g, k * 3 + 2, none⟩ = some (.bool l.dead) := by rw [ho.cell hg (fun h => h)]; exact e2
      have HP : Hid (∀ j l', ls.reverse[j]? = some l' → wr.cell? ⟨g, j * 3, none⟩ = some (.int .i64 l'.stamp)) := Lib.hid (fun j l' hl' => by
        obtain ⟨_, _, e0', _, _⟩ := hcs j l' hl'
        rw [ho.cell hg (fun h => h)]; exact e0')
      have HL := Lib.hid hl
      obtain ⟨st', val, b'⟩ := l
      simp only at f0 f1 f2 hx
      subst hx
      clear hcs e0 e1 e2 ho hX hl
      rcases k with _ | j
      · have hz : decide ((0 : Int) < ((0 : Nat) : Int)) = false := by simp
        clear HP
        rw [show ((0 : Nat) : Int) = 0 from rfl]
        rcases Nat.lt_trichotomy 0 m with hc | hc | hc
        · have hf : decide (m < 0) = false := decide_eq_false (by omega)
          have hab := HQ1.out _ _ HL.out hc
          simp only at hab
          rw [hf]
          have HCC := Lib.hid hc
          clear hf hc
          go_wp2_with fail
          go_quiet (fail)
          go_wp2_with fail
          go_roundw
          case rel => exact ⟨0 + 1, by omega, by first | rfl | go_num, congrArg Value.bool (by have := HCC.out; simp; omega), by repeat (first | exact HO.out | refine Only.drewN ?_ _)⟩
          case measure => simp [intOf]; omega
        · have hf : decide (m < 0) = false := decide_eq_false (by omega)
          obtain ⟨hab, hat⟩ := HQ2.out _ _ HL.out hc
          have ht := HT.out
          rw [hat] at ht
          obtain ⟨he, rfl⟩ := told_some ht
          obtain ⟨rfl, hyy, rfl⟩ := Lk.mk.inj he
          obtain rfl := Value.string.inj hyy
          simp only at hab
          rw [hf]
          have HCC := Lib.hid hc
          clear hf he hat ht hyy hc
          go_wp2_with fail
          go_quiet (fail)
          go_wp2_with fail
          go_quiet (fail)
          go_wp2_with fail
          go_roundw
          case rel => exact ⟨0 + 1, by omega, by first | rfl | go_num, congrArg Value.bool (by have := HCC.out; simp; omega), by repeat (first | exact HO.out | refine Only.drewN ?_ _)⟩
          case measure => simp [intOf]; omega
        · have hf : decide (m < 0) = true := decide_eq_true (by omega)
          rw [hf]
          have HCC := Lib.hid hc
          clear hf hc
          go_wp2_with fail
          go_quiet (fail)
          go_wp2_with fail
          go_roundw
          case rel => exact ⟨0 + 1, by omega, by first | rfl | go_num, congrArg Value.bool (by have := HCC.out; simp; omega), by repeat (first | exact HO.out | refine Only.drewN ?_ _)⟩
          case measure => simp [intOf]; omega
      · have hz : decide ((0 : Int) < (j : Int) + 1) = true := by simp
        obtain ⟨l', hl'⟩ : ∃ l', ls.reverse[j]? = some l' := ⟨_, List.getElem?_eq_getElem (by rw [HLN.out]; omega)⟩
        have g0 := HP.out j l' hl'
        have hfall := HQ3.out _ _ _ hl' HL.out
        simp only at hfall
        have hdd : decide (l'.stamp ≤ st') = false := decide_eq_false (by omega)
        generalize l'.stamp = st'' at *
        clear HP hl'
        rcases Nat.lt_trichotomy (j + 1) m with hc | hc | hc
        · have hf : decide (m < (j + 1)) = false := decide_eq_false (by omega)
          have hab := HQ1.out _ _ HL.out hc
          simp only at hab
          rw [hf]
          have HCC := Lib.hid hc
          clear hf hc
          go_wp2_with fail
          go_quiet (fail)
          go_wp2_with fail
          go_roundw
          case rel => exact ⟨j + 1 + 1, by omega, by first | rfl | go_num, congrArg Value.bool (by have := HCC.out; simp; omega), by repeat (first | exact HO.out | refine Only.drewN ?_ _)⟩
          case measure => simp [intOf]; omega
        · have hf : decide (m < (j + 1)) = false := decide_eq_false (by omega)
          obtain ⟨hab, hat⟩ := HQ2.out _ _ HL.out hc
          have ht := HT.out
          rw [hat] at ht
          obtain ⟨he, rfl⟩ := told_some ht
          obtain ⟨rfl, hyy, rfl⟩ := Lk.mk.inj he
          obtain rfl := Value.string.inj hyy
          simp only at hab
          rw [hf]
          have HCC := Lib.hid hc
          clear hf he hat ht hyy hc
          go_wp2_with fail
          go_quiet (fail)
          go_wp2_with fail
          go_quiet (fail)
          go_wp2_with fail
          go_roundw
          case rel => exact ⟨j + 1 + 1, by omega, by first | rfl | go_num, congrArg Value.bool (by have := HCC.out; simp; omega), by repeat (first | exact HO.out | refine Only.drewN ?_ _)⟩
          case measure => simp [intOf]; omega
        · have hf : decide (m < (j + 1)) = true := decide_eq_true (by omega)
          rw [hf]
          have HCC := Lib.hid hc
          clear hf hc
          go_wp2_with fail
          go_quiet (fail)
          go_wp2_with fail
          go_roundw
          case rel => exact ⟨j + 1 + 1, by omega, by first | rfl | go_num, congrArg Value.bool (by have := HCC.out; simp; omega), by repeat (first | exact HO.out | refine Only.drewN ?_ _)⟩
          case measure => simp [intOf]; omega
    · obtain rfl : k = len := by omega
      have hf : decide (m < k) = is := HQ4.out.symm
      rw [hf]
      clear hf
      go_wp2_with fail
      go_ret
      exact ⟨by simp, HO6.out.trans HO.out⟩

end Rf
end Go.Proofs.Ytkfihfipnbbfcaa
