/-
  Layer 4: slices of items that are their own: made, grown, overwritten.
-/
import Derived.Test.YtimoenpfnaaehaaOX1
namespace Go.Proofs.Ytimoenpfnaaehaa
open Go.RowKit

theorem Blk.cells {b : Nat} {t : TypeId} : ∀ (vs : List Value) (o : Nat) {w : World} {cs : Array Value}, Blk w b t cs → o + vs.length ≤ cs.size →
    ∃ cs' : Array Value, Blk (w.setCells b o vs) b t cs' ∧ cs'.size = cs.size ∧ cs'.toList = cs.toList.take o ++ vs ++ cs.toList.drop (o + vs.length)
  | [], o, w, cs, h, _ => ⟨cs, h, rfl, by simp⟩
  | v :: vs, o, w, cs, h, hl => by
    simp only [List.length_cons] at hl
    obtain ⟨cs', h1, h2, h3⟩ := Blk.cells vs (o + 1) (h.put o v) (by simp; omega)
    refine ⟨cs', h1, by simpa using h2, ?_⟩
    rw [h3]
    have hs : (cs.setIfInBounds o v).toList = cs.toList.set o v := by simp
    have ho : o < cs.toList.length := by simp; omega
    rw [hs, List.length_cons, List.drop_set_of_lt (by omega), List.take_set, List.take_add_one, List.getElem?_eq_getElem ho]
    have e : (cs.toList.take o ++ [cs.toList[o]]).set o v = cs.toList.take o ++ [v] := by
      rw [List.set_append_right _ _ (by rw [List.length_take]; omega)]
      rw [List.length_take, Nat.min_eq_left (by omega), Nat.sub_self]
      rfl
    simp only [Option.toList_some]
    rw [e, show o + 1 + vs.length = o + (vs.length + 1) by omega]
    simp only [List.append_assoc, List.cons_append, List.nil_append]

theorem there_blk {w : World} {b o n : Nat} {t : TypeId} {cs : Array Value} (h : Blk w b t cs) (hl : o + n ≤ cs.size) : w.there b o n := fun j hj => by
  refine ⟨?_, h.free _⟩
  rw [h.cell]
  simp
  omega

def flI (xs : List It) : List Value := xs.flatMap fun x => x.c.toList
theorem flI_len (xs : List It) : (flI xs).length = xs.length * 6 := cells_len xs
theorem flI_app (xs ys : List It) : flI (xs ++ ys) = flI xs ++ flI ys := List.flatMap_append
theorem flI_one (x : It) : flI [x] = x.c.toList := by simp [flI]
theorem flI_take (xs : List It) (q : Nat) : (flI xs).take (q * 6) = flI (xs.take q) := by
  by_cases h : q ≤ xs.length
  · conv => lhs; rw [← List.take_append_drop q xs, flI_app]
    rw [List.take_append_of_le_length (by rw [flI_len, List.length_take]; omega), List.take_of_length_le (by rw [flI_len, List.length_take]; omega)]
  · rw [List.take_of_length_le (by rw [flI_len]; omega), List.take_of_length_le (by omega)]
theorem flI_drop (xs : List It) (q : Nat) : (flI xs).drop (q * 6) = flI (xs.drop q) := by
  by_cases h : q ≤ xs.length
  · conv => lhs; rw [← List.take_append_drop q xs, flI_app]
    rw [List.drop_append_of_le_length (by rw [flI_len, List.length_take]; omega), List.drop_of_length_le (by rw [flI_len, List.length_take]; omega)]
    rfl
  · rw [List.drop_of_length_le (by rw [flI_len]; omega), List.drop_of_length_le (by omega)]
    rfl
theorem set_split {α : Type} (xs : List α) (q : Nat) (y : α) (h : q < xs.length) : xs.set q y = xs.take q ++ [y] ++ xs.drop (q + 1) := by
  rw [List.set_eq_take_append_cons_drop, if_pos h]
  simp

theorem RowI.lt {w : World} {B : Nat} {v : Value} {xs : List It} (h : RowI w B v xs) {g : Nat} (hg : v.ownBlock = some g) : g < w.heap.size := by
  rcases h.2 with ⟨rfl, _⟩ | ⟨g', cap, cur, rfl, _, hb, _⟩
  · simp [Value.ownBlock] at hg
  · have : g' = g := by simpa [Value.ownBlock] using hg
    subst this
    exact Blk.lt (t := 29) (cs := cur) hb
theorem RowD.lt {w : World} {B : Nat} {v : Value} {xs : List It} (h : RowD w B v xs) {g : Nat} (hg : v.ownBlock = some g) : g < w.heap.size := by
  rcases h.2 with ⟨rfl, _⟩ | ⟨g', cap, cur, rfl, _, hb, _⟩
  · simp [Value.ownBlock] at hg
  · have : g' = g := by simpa [Value.ownBlock] using hg
    subst this
    exact Blk.lt (t := 32) (cs := cur) hb

theorem over_list (C ys : List Value) (N q : Nat) (h6 : ys.length = 6) (hC : N * 6 ≤ C.length) (hq : q < N) :
    (C.take (q * 6) ++ ys ++ C.drop (q * 6 + 6)).take (N * 6) = (C.take (N * 6)).take (q * 6) ++ ys ++ (C.take (N * 6)).drop ((q + 1) * 6) := by
  have h1 : (q + 1) * 6 ≤ N * 6 := Nat.mul_le_mul_right 6 hq
  rw [List.take_take, Nat.min_eq_left (by omega), List.drop_take, List.take_append, List.take_of_length_le (by rw [List.length_append, List.length_take, h6]; omega), List.length_append, List.length_take, h6, Nat.min_eq_left (by omega), show (q + 1) * 6 = q * 6 + 6 by omega]

/-- one of its items overwritten -/
theorem RowI.over {w : World} {B g n cap : Nat} {xs : List It} (h : RowI w B (.slice (some ⟨g, 0, none⟩) n cap) xs) {q : Nat} (hq : q < n) (y : It) :
    w.there g (q * 6) 6 ∧ xs.length = n ∧ RowI (w.setCells g (q * 6) y.c.toList) B (.slice (some ⟨g, 0, none⟩) n cap) (xs.set q y) := by
  rcases h.2 with ⟨h0, _⟩ | ⟨g', cap', cur, hv, hb, hh, hle, hcm, hsz, hcur⟩
  · simp at h0
  · simp only [Value.slice.injEq, Option.some.injEq, Addr.mk.injEq, and_true] at hv
    obtain ⟨rfl, rfl, rfl⟩ := hv
    have hblk : Blk w g 29 cur := hh
    have h1 : (q + 1) * 6 ≤ xs.length * 6 := Nat.mul_le_mul_right 6 hq
    have h2 : xs.length * 6 ≤ cap * 6 := Nat.mul_le_mul_right 6 hle
    have hroom : q * 6 + 6 ≤ cur.size := by rw [hsz]; omega
    obtain ⟨cs', e1, e2, e3⟩ := Blk.cells y.c.toList (q * 6) hblk (by simp; omega)
    refine ⟨there_blk hblk hroom, rfl, ⟨?_, .inr ⟨g, cap, cs', by rw [List.length_set], hb, e1, by rw [List.length_set]; exact hle, hcm, by rw [e2, hsz], ?_⟩⟩⟩
    · rw [cells_len]
    · have h6 : y.c.toList.length = 6 := by simp
      have hcl : cur.toList.length = cap * 6 := by rw [Array.length_toList, hsz]
      rw [e3, List.length_set, h6]
      show _ = flI (xs.set q y)
      have hcur' : cur.toList.take (xs.length * 6) = flI xs := hcur
      have hov := over_list cur.toList y.c.toList xs.length q h6 (by rw [hcl]; exact h2) hq
      rw [hov, hcur', flI_take, flI_drop, set_split xs q y hq, flI_app, flI_app, flI_one]

def OwnMk (nb : Nat) (xs : List It) (w : World) (i : Value) (wr : World) : Prop :=
  Only NoneOf w wr ∧ ∃ (q : Nat) (cs : Array Value), i = .int .i64 q ∧ q ≤ xs.length ∧ Blk wr nb 29 cs ∧ cs.size = xs.length * 6 ∧ cs.toList.take (q * 6) = flI (xs.take q)

/-- How a call ends that makes a slice of items. -/
def OwnPost (xs : List It) (w : World) (e : Ending) (w' : World) : Prop := ∃ v, e = .returned v ∧ RowI w' w.heap.size v xs ∧ Only NoneOf w w'

set_option maxRecDepth 100000 in
set_option maxHeartbeats 1000000 in
theorem items_own (xs : List It) (A : Option Addr) (cap : Nat) (w : World) (hA : RawsAt w A xs) (hn : xs.length ≤ 4398046511104) : Calls Try.prog 28 #[.slice A xs.length cap] w (OwnPost xs w) := by
  obtain ⟨cs, hcs, hm⟩ := make_rows 47 29 6 xs.length w Try.underlying47 made29 hn
  have hR := raws_rows hA
  clear hA
  go_enter Try.func28, Try.ntmps28
  go_wp2_with fail
  have hO := (Only.refl NoneOf w).alloc (.cells cs 29)
  have hT := Blk.new w 29 cs
  generalize w.alloc (.cells cs 29) = W at *
  clear hm
  go_loopw [4] (fun i wr => OwnMk w.heap.size xs w i wr) (fun i _ => xs.length - (intOf i).toNat)
  case atStart => exact ⟨hO, 0, cs, rfl, Nat.zero_le _, hT, hcs, by simp [flI]⟩
  case round =>
    obtain ⟨ho, q, cs', rfl, hq, hb, hsz, hrows⟩ := hrel
    have HO := Lib.hid ho
    have HRW := Lib.hid hrows
    have HB := Lib.hid hb
    have HSZ := Lib.hid hsz
    clear ho hrows hb hsz hO hT hcs
    by_cases hlt : q < xs.length
    · obtain ⟨g, off, rfl, hg, hc⟩ := (hR.keep HO.out) q xs[q].r.toList (by simp [hlt])
      have HX := Lib.hid (show xs.take (q + 1) = xs.take q ++ [xs[q]] by rw [List.take_add_one, List.getElem?_eq_getElem hlt]; rfl)
      generalize xs[q] = x at *
      obtain ⟨k, b, n, f, re, im, t⟩ := x
      have HI := fun u => Lib.hid (item_is k b n f re im t u)
      go_wp2_with (refine wpList_load_mid rfl 25 (.tmp 18) rfl g (off + q * 7) rfl (It.r ⟨k, b, n, f, re, im, t⟩).toList _ hc Try.underlying25 rfl info25 ?_)
      refine (HI _).out.mono ?_; rintro e w1 ⟨rfl, ho1⟩
      have HB1 := Lib.hid (HB.out.only ho1 (fun h => h))
      have hroom : q * 6 + 6 ≤ cs'.size := by
        have : (q + 1) * 6 ≤ xs.length * 6 := Nat.mul_le_mul_right 6 hlt
        rw [HSZ.out]; omega
      have ht1 := there_blk HB1.out hroom
      obtain ⟨cs2, e1, e2, e3⟩ := Blk.cells (It.c ⟨k, b, n, f, re, im, t⟩).toList (q * 6) HB1.out (by simpa using hroom)
      have HE1 := Lib.hid e1
      have HE2 := Lib.hid e2
      have HE3 := Lib.hid e3
      have HO1 := Lib.hid (show Only NoneOf w (w1.setCells w.heap.size (q * 6) (It.c ⟨k, b, n, f, re, im, t⟩).toList) from Only.cells (.inr (Nat.le_refl _)) _ _ (HO.out.trans ho1))
      clear ho1 e1 e2 e3
      go_wp2_with (first | (refine store29 rfl (.tmp 21) (.tmp 20) rfl w.heap.size q k b n f re im t (by simp [go_sem]) (by simp [go_sem]) (by with_reducible exact ht1) ?_) | fail)
      go_roundw
      case rel =>
        refine ⟨HO1.out, q + 1, cs2, by simp, by omega, HE1.out, by rw [HE2.out, HSZ.out], ?_⟩
        rw [HE3.out, HX.out, flI_app, flI_one, ← HRW.out]
        have hl : cs'.toList.length = cs'.size := by simp
        rw [List.take_append_of_le_length (by rw [List.length_append, List.length_take]; simp; omega), List.take_of_length_le (by rw [List.length_append, List.length_take]; simp; omega)]
      case measure => simp [intOf]; omega
    · go_wp2_with fail
      go_ret
      obtain rfl : q = xs.length := by omega
      have hrw := HRW.out
      rw [List.take_of_length_le (Nat.le_refl _)] at hrw
      exact ⟨_, rfl, ⟨cells_len xs, .inr ⟨w.heap.size, xs.length, cs', rfl, Nat.le_refl _, HB.out, Nat.le_refl _, by unfold maxLen; omega, HSZ.out, hrw⟩⟩, HO.out⟩

end Go.Proofs.Ytimoenpfnaaehaa
